/-
  The shelf's contracts for (*strings.Builder).WriteString and String at this program.
  code.Encode.
  The law ParserMeaning.
  A prefix code has an automaton exactly if its measure is 1; then every word can be read: plain.
  The law TopCompleted (f4).
-/
import Derived.Shelf.Strings.Builder1
import Derived.Test.YtaphjgjhpmmkmaaGreatProg
import Derived.Test.YtaphjgjhpmmkmaaGreatJee6ede301e7f
import Derived.Test.YtaphjgjhpmmkmaaGreatJdc1a54cc70a2
import Derived.Test.YtaphjgjhpmmkmaaGreatJ01548925e5b0
import Derived.Test.YtaphjgjhpmmkmaaGreatJfd59b539e2d8
import Derived.Test.YtaphjgjhpmmkmaaGreatJ27e63eb992a8

section
namespace Go.Proofs
open Go.Shelf
def Tryz.lays166_ren : Go.Shelf.Ren := ⟨fun | 166 => 49 | 240 => 82 | 276 => 112 | n => n, fun | 70 => 83 | 9 => 9 | 3 => 3 | 75 => 87 | 0 => 0 | 72 => 85 | 37 => 61 | 4 => 4 | 164 => 142 | 20 => 20 | 5 => 5 | 80 => 90 | n => n, fun | n => n⟩
theorem Tryz.lays166 : Go.Proofs.Lays.n166 Tryz.prog Tryz.lays166_ren := {
  mixed := by kernel_rfl
  f166 := Tryz.func49.trans (congrArg some (by kernel_rfl))
  f240 := Tryz.func82.trans (congrArg some (by kernel_rfl))
  f276 := Tryz.func112.trans (congrArg some (by kernel_rfl))
  t0 := Tryz.underlying0
  a0 := Tryz.isAgg0
  z0 := Tryz.sizeOf0
  v0 := Tryz.zeroValue0
  t3 := Tryz.underlying3
  a3 := Tryz.isAgg3
  z3 := Tryz.sizeOf3
  v3 := Tryz.zeroValue3
  t4 := Tryz.underlying4
  a4 := Tryz.isAgg4
  z4 := Tryz.sizeOf4
  v4 := Tryz.zeroValue4
  t9 := Tryz.underlying9
  a9 := Tryz.isAgg9
  z9 := Tryz.sizeOf9
  v9 := Tryz.zeroValue9
  t20 := Tryz.underlying20
  a20 := Tryz.isAgg20
  z20 := Tryz.sizeOf20
  v20 := Tryz.zeroValue20
  t37 := Tryz.underlying61
  a37 := Tryz.isAgg61
  z37 := Tryz.sizeOf61
  v37 := Tryz.zeroValue61
  t70 := Tryz.underlying83
  a70 := Tryz.isAgg83
  z70 := Tryz.sizeOf83
  v70 := Tryz.zeroValue83
  t72 := Tryz.underlying85
  a72 := Tryz.isAgg85
  z72 := Tryz.sizeOf85
  v72 := Tryz.zeroValue85
  t75 := Tryz.underlying87
  a75 := Tryz.isAgg87
  z75 := Tryz.sizeOf87
  v75 := Tryz.zeroValue87
  t164 := Tryz.underlying142
  a164 := Tryz.isAgg142
  z164 := Tryz.sizeOf142
  v164 := Tryz.zeroValue142 }
def Tryz.lays169_ren : Go.Shelf.Ren := ⟨fun | 169 => 50 | n => n, fun | 70 => 83 | 9 => 9 | 0 => 0 | 72 => 85 | 37 => 61 | 127 => 116 | 3 => 3 | 5 => 5 | n => n, fun | n => n⟩
theorem Tryz.lays169 : Go.Proofs.Lays.n169 Tryz.prog Tryz.lays169_ren := {
  mixed := by kernel_rfl
  f169 := Tryz.func50.trans (congrArg some (by kernel_rfl))
  t0 := Tryz.underlying0
  a0 := Tryz.isAgg0
  z0 := Tryz.sizeOf0
  v0 := Tryz.zeroValue0
  t3 := Tryz.underlying3
  a3 := Tryz.isAgg3
  z3 := Tryz.sizeOf3
  v3 := Tryz.zeroValue3
  t9 := Tryz.underlying9
  a9 := Tryz.isAgg9
  z9 := Tryz.sizeOf9
  v9 := Tryz.zeroValue9
  t37 := Tryz.underlying61
  a37 := Tryz.isAgg61
  z37 := Tryz.sizeOf61
  v37 := Tryz.zeroValue61
  t70 := Tryz.underlying83
  a70 := Tryz.isAgg83
  z70 := Tryz.sizeOf83
  v70 := Tryz.zeroValue83
  t72 := Tryz.underlying85
  a72 := Tryz.isAgg85
  z72 := Tryz.sizeOf85
  v72 := Tryz.zeroValue85
  t127 := Tryz.underlying116
  a127 := Tryz.isAgg116
  z127 := Tryz.sizeOf116
  v127 := Tryz.zeroValue116 }
theorem Tryz.Builder_Extra_166 : Builder.Extra Tryz.prog Tryz.lays166_ren := {
  sizeBuilder := by kernel_rfl
  liesBuilder := by kernel_rfl
  t5 := Tryz.underlying5
  a5 := Tryz.isAgg5
  z5 := Tryz.sizeOf5
  v5 := Tryz.zeroValue5
  infoByte := by kernel_rfl
  cellsByte := by kernel_rfl
  sizeByte := by kernel_rfl
  neB5 := by decide }
theorem Tryz.Builder_Extra_169 : Builder.Extra Tryz.prog Tryz.lays169_ren := {
  sizeBuilder := by kernel_rfl
  liesBuilder := by kernel_rfl
  t5 := Tryz.underlying5
  a5 := Tryz.isAgg5
  z5 := Tryz.sizeOf5
  v5 := Tryz.zeroValue5
  infoByte := by kernel_rfl
  cellsByte := by kernel_rfl
  sizeByte := by kernel_rfl
  neB5 := by decide }
end Go.Proofs
end

section
namespace Go.Proofs.YtaphjgjhpmmkmaaGreat
open Go Go.AM Go.RowKit
set_option maxRecDepth 100000
set_option linter.unusedSimpArgs false

def encL (ws : List (List UInt8)) (ks : List Int) : List UInt8 := (ks.map fun k => ws.getD k.toNat []).flatten
def encIn (ws : List (List UInt8)) (ks : List Int) : Bool := ks.all fun k => decide (0 ≤ k) && decide (k < ws.length)
def encE (q : Int) (ws : List (List UInt8)) (ks : List Int) : Int := if codeCheck q ws = 0 then (if encIn ws ks = true then (if 65536 < (encL ws ks).length then 4 else 0) else 2) else 1
def encS (q : Int) (ws : List (List UInt8)) (ks : List Int) : List UInt8 := if encE q ws ks = 0 then encL ws ks else []
theorem encL_take {ws : List (List UInt8)} {ks : List Int} {i : Nat} (hi : i < ks.length) : encL ws (ks.take (i + 1)) = encL ws (ks.take i) ++ ws.getD ks[i].toNat [] := by
  unfold encL; rw [List.take_succ_eq_append_getElem hi, List.map_append, List.flatten_append]; simp only [List.map_cons, List.map_nil, List.flatten_cons, List.flatten_nil, List.append_nil]
theorem encL_le (ws : List (List UInt8)) (ks : List Int) (i : Nat) : (encL ws (ks.take i)).length ≤ (encL ws ks).length := by
  have : encL ws ks = encL ws (ks.take i) ++ encL ws (ks.drop i) := by
    unfold encL; rw [← List.flatten_append, ← List.map_append, List.take_append_drop]
  rw [this, List.length_append]; omega
theorem encIn_take {ws : List (List UInt8)} {ks : List Int} {i : Nat} (hi : i < ks.length) : encIn ws (ks.take (i + 1)) = (encIn ws (ks.take i) && (decide (0 ≤ ks[i]) && decide (ks[i] < ws.length))) := by
  unfold encIn; rw [List.take_succ_eq_append_getElem hi, List.all_append]; simp
theorem encIn_bad {ws : List (List UInt8)} {ks : List Int} {i : Nat} (hi : i < ks.length) (h : ks[i] < 0 ∨ (ws.length : Int) ≤ ks[i]) : encIn ws ks = false := by
  unfold encIn
  rw [List.all_eq_false]
  refine ⟨ks[i], List.getElem_mem hi, ?_⟩
  simp
  omega

def encT (ks : List Int) : List AV := mkF 55 [(1, .p (.sl (ks.map (.int .i64)))), (2, .ptr 0 0)]
def encTk (ks : List Int) (k : Nat) : List AV := mkF 55 [(1, .p (.sl (ks.map (.int .i64)))), (2, .ptr 0 0), (41, .p (.sl (ks.map (.int .i64)))), (42, .p (.int .i64 ks.length)), (43, .p (.int .i64 k))]

theorem encTk_m {ks : List Int} {k : Nat} {X : Ctx} {I : Nat → Prop} {μ : Nat → Value} {ob : Nat → Option Nat} {h : List AObj} {wb w : World} {a : Act} {l : List UInt8} (B : Bld X I μ ob h wb 85 5 9 (encTk ks k) l w a) :
    (match a.tmps.getD 43 undef with | .int _ k => ks.length - k.toNat | _ => 0) = ks.length - k := by
  have h1 := B.rep.evs (.tmp 43)
  have h2 : ev (encTk ks k) (.tmp 43) = .p (.int .i64 k) := rfl
  rw [h2] at h1
  have h3 : a.tmps.getD 43 undef = .int .i64 k := h1.int_inv
  rw [h3]; rfl

theorem p38 (q : Int) (ws : List (List UInt8)) (ks : List Int) (hk : ks.length ≤ 1000000) : PFn Tryz.prog 24 [codeV q ws, .sl (ks.map (.int .i64))] [.str (encS q ws ks), .int .i64 (encE q ws ks)] := by
  refine PFn.of_body hΓ Tryz.func24 (by kernel_rfl) rfl (AWp.seq (AWp.of_awpD [] hΓ hmix (by kernel_rfl) ?_))
  simp -implicitDefEqProofs only [Tryz.ntmps24, Tryz.results24, Nat.reduceAdd, Nat.reduceSub, codeV, go_sem]
  refine AWp.seq (AWp.of_awpD [] hΓ hmix (by kernel_rfl) ?_)
  simp -implicitDefEqProofs only [go_sem]
  refine callK_fn (t45 q ws) (.still rfl) ?_
  by_cases h : codeCheck q ws = 0
  rotate_left
  · have e1 : encE q ws ks = 1 := by unfold encE; rw [if_neg h]
    have e2 : encS q ws ks = [] := by unfold encS; rw [e1, if_neg (by decide)]
    rw [e1, e2]
    simp -implicitDefEqProofs only [h, go_sem]
  have hv := valid_of h
  have hlen := hv.len
  rw [h]
  simp -implicitDefEqProofs only [go_sem]
  refine AWp.seq (AWp.of_awpD [] hΓ hmix (by kernel_rfl) ?_)
  simp -implicitDefEqProofs only [go_sem]
  refine AWp.seq (AWp.of_awpD [] hΓ hmix (by kernel_rfl) ?_)
  simp -implicitDefEqProofs only [List.length_map, go_sem]
  refine AWp.loopI (fun i : Nat => ⟨mkF 55 [(1, .p (.sl (ks.map (.int .i64)))), (2, .ptr 0 0), (6, .p (.int .i64 (encL ws (ks.take i)).length)), (15, .p (.sl (ks.map (.int .i64)))), (16, .p (.int .i64 ks.length)), (17, .p (.int .i64 i))], [codeB q ws]⟩)
    (fun i => i ≤ ks.length ∧ encIn ws (ks.take i) = true ∧ (encL ws (ks.take i)).length ≤ 32 * i) (fun i => ks.length - i) 0 (by simp [go_sem, codeB, encL]) (by simp [encIn, encL]) ?_
  rintro i ⟨hi, hin, hbd⟩
  refine AWp.of_awpD [] hΓ hmix (by kernel_rfl) ?_
  by_cases hlt : i < ks.length
  · have hgk : (ks.map (PV.int .i64)).getD i default = .int .i64 ks[i] := by
      rw [getD_map_lt _ _ _ _ hlt]
    by_cases hbad : ks[i] < 0 ∨ (ws.length : Int) ≤ ks[i]
    · have e1 : encE q ws ks = 2 := by unfold encE; rw [if_pos h, encIn_bad hlt hbad]; rfl
      have e2 : encS q ws ks = [] := by unfold encS; rw [e1, if_neg (by decide)]
      rw [e1, e2]
      by_cases hneg : ks[i] < 0
      · simp -implicitDefEqProofs only [List.length_map, hlt, hgk, hneg, codeB, go_sem]
      · have hge : (ws.length : Int) ≤ ks[i] := hbad.resolve_left hneg
        simp -implicitDefEqProofs only [List.length_map, hlt, hgk, hneg, hge, codeB, go_sem]
    · have hneg : ¬ ks[i] < 0 := fun h => hbad (.inl h)
      have hge : ¬ (ws.length : Int) ≤ ks[i] := fun h => hbad (.inr h)
      have hkn : ks[i].toNat < ws.length := by omega
      have hgw : (ws.map PV.str).getD ks[i].toNat default = .str (ws.getD ks[i].toNat []) := by
        rw [getD_map_lt _ _ _ _ hkn, List.getD_eq_getElem?_getD, List.getElem?_eq_getElem hkn]; rfl
      have hsh := hv.short _ hkn
      have hst := encL_take (ws := ws) hlt
      have hl2 : (encL ws (ks.take (i + 1))).length = (encL ws (ks.take i)).length + (ws.getD ks[i].toNat []).length := by rw [hst, List.length_append]
      have hin2 : encIn ws (ks.take (i + 1)) = true := by
        rw [encIn_take hlt, hin, decide_eq_true (show 0 ≤ ks[i] by omega), decide_eq_true (show ks[i] < ws.length by omega)]; rfl
      simp -implicitDefEqProofs only [List.length_map, hlt, hgk, hneg, hge, hgw, codeB, go_sem]
      exact ⟨⟨by omega, by omega⟩, by simp only [InR]; omega, by simp only [InR]; omega, i + 1, ⟨by omega, by omega⟩, ⟨hlt, hin2, by omega⟩, by omega⟩
  · have hin' : i = ks.length := by omega
    rw [hin', List.take_length] at hin hbd ⊢
    have hz : ¬ (ks.length : Int) < ks.length := by omega
    simp -implicitDefEqProofs only [List.length_map, hz, go_sem]
    refine AWp.seq (AWp.of_awpD [] hΓ hmix (by kernel_rfl) ?_)
    by_cases hbig : 65536 < (encL ws ks).length
    · have hbig' : (65536 : Int) < (encL ws ks).length := by omega
      have e1 : encE q ws ks = 4 := by unfold encE; rw [if_pos h, if_pos hin, if_pos hbig]
      have e2 : encS q ws ks = [] := by unfold encS; rw [e1, if_neg (by decide)]
      rw [e1, e2]
      simp -implicitDefEqProofs only [hbig', go_sem]
    · have hbig' : ¬ (65536 : Int) < (encL ws ks).length := by omega
      have e1 : encE q ws ks = 0 := by unfold encE; rw [if_pos h, if_pos hin, if_neg hbig]
      have e2 : encS q ws ks = encL ws ks := by unfold encS; rw [e1, if_pos rfl]
      rw [e1, e2]
      simp -implicitDefEqProofs only [hbig', go_sem]
      refine AWp.bstart (T := 85) (e := 5) (s := 9) (by kernel_rfl) (by simp [go_sem]) ?_
      intro X I μ ob wb w a hE B
      have BT := B.weak (tm' := encT ks) (by simp [go_sem, encT])
      clear B
      have HW : ∀ (B b : Nat) (bs : List Value) (z : ByteArray) (w : World), Lib.IsBuilder 85 5 B b bs w → bs.length + z.size ≤ 140737488355328 → B ≤ w.heap.size →
          Calls Tryz.prog 49 #[.pointer (some ⟨b, 0, none⟩), .string z] w fun x w' => x = .returned (.tuple #[.int .i64 z.size, .nilIface]) ∧ (Lib.BuilderAt 85 5 B b (.pointer (some ⟨b, 0, none⟩)) (bs ++ Lib.strCells z) w' ∧ Below B w w') :=
        fun B b bs z w h1 h2 h3 => Any.Builder_WriteString Tryz.lays166 Tryz.Builder_Extra_166 B b bs z w h1 h2 h3
      have HS : ∀ (B b : Nat) (l : List UInt8) (w : World), Lib.IsBuilder 85 5 B b (Lib.byteCells l) w → B ≤ w.heap.size →
          Calls Tryz.prog 50 #[.pointer (some ⟨b, 0, none⟩)] w fun x w' => x = .returned (.string ⟨l.toArray⟩) ∧ Below B w w' :=
        fun B b l w h1 h2 => Any.Builder_String_any Tryz.lays169 Tryz.Builder_Extra_169 B b l w h1 h2
      have hW : EntersF Tryz.prog 49 := entersF_of Tryz.func49 (by kernel_rfl) rfl
      have hS : EntersF Tryz.prog 50 := entersF_of Tryz.func50 (by kernel_rfl) rfl
      refine wpIn_seq (wpIn_seq (wpIn_region ?_))
      refine simp_at (K := fun tm' => weakT tm' (encTk ks 0)) hΓ 0 3 rfl (by decide) (by kernel_rfl) BT ?_ ?_
      · simp -implicitDefEqProofs only [encT, encTk, List.drop, List.take, lexK_nil, lexK_plain, go_sem]
        rfl
      intro tm1 a1 B1 hd1 hw1
      have Bk := B1.weak hw1
      clear BT B1 hw1
      refine wpIn_block (wpIn_loop (fun a' w' => ∃ k, k ≤ ks.length ∧ Bld X I μ ob [codeB q ws] wb 85 5 9 (encTk ks k) (encL ws (ks.take k)) w' a') (fun a' _ => match a'.tmps.getD 43 undef with | .int _ k => ks.length - k.toNat | _ => 0) ⟨0, by omega, Bk⟩ ?_)
      rintro a2 w2 ⟨k, hkn, B2⟩
      rw [encTk_m B2]
      refine wpIn_seq (wpIn_region ?_)
      refine simp_at (K := fun tm' => ∃ v, tm' = putD (encTk ks k) (some 44) v ∧ v = .p (.bool (decide (k < ks.length)))) hΓ 0 1 rfl (by decide) (by kernel_rfl) B2 ?_ ?_
      · simp -implicitDefEqProofs only [encT, encTk, List.drop, List.take, lexK_nil, lexK_plain, go_sem]
        exact ⟨_, rfl, rfl⟩
      rintro tm3 a3 B3 hd3 ⟨v, rfl, rfl⟩
      have hc44 : a3.eval (.tmp 44) = .bool (decide (k < ks.length)) := by
        have h1 := B3.rep.evs (.tmp 44)
        have h2 : ev (putD (encTk ks k) (some 44) (.p (.bool (decide (k < ks.length))))) (.tmp 44) = .p (.bool (decide (k < ks.length))) := rfl
        rw [h2] at h1
        exact h1.bool_inv
      refine wpIn_seq (wpIn_cond_split hc44 (fun ht => wpIn_skip ?_) (fun hf => wpIn_exit ?_))
      · have hlt : k < ks.length := of_decide_eq_true ht
        have hkk := List.all_eq_true.1 hin ks[k] (List.getElem_mem hlt)
        simp only [Bool.and_eq_true, decide_eq_true_eq] at hkk
        have hkn2 : ks[k].toNat < ws.length := by omega
        have hgk : (ks.map (PV.int .i64)).getD k default = .int .i64 ks[k] := by rw [getD_map_lt _ _ _ _ hlt]
        have hgw : (ws.map PV.str).getD ks[k].toNat default = .str (ws.getD ks[k].toNat []) := by
          rw [getD_map_lt _ _ _ _ hkn2, List.getD_eq_getElem?_getD, List.getElem?_eq_getElem hkn2]; rfl
        have B4 := B3.weak (tm' := encTk ks k) (by simp [go_sem, encTk])
        clear B2 B3
        change (Code.seq _ _).wpIn _ _ _ _ _ _
        refine wpIn_seq (wpIn_block (wpIn_seq (wpIn_region ?_)))
        refine simp_at (K := fun tm' => weakT tm' (putD (encTk ks k) (some 11) (.p (.int .i64 ks[k])))) hΓ 0 3 rfl (by decide) (by kernel_rfl) B4 ?_ ?_
        · simp -implicitDefEqProofs only [encT, encTk, List.drop, List.take, lexK_nil, lexK_plain, go_sem, List.length_map, hlt, hgk]
        intro tm5 a5 B5 hd5 hw5
        have B6 := B5.weak hw5
        clear B4 B5 hw5
        change (Code.region _ _ _).wpIn _ _ _ _ _ _
        refine wpIn_region ?_
        refine simp_at (K := fun tm' => weakT tm' (putD (encTk ks k) (some 51) (.p (.str (ws.getD ks[k].toNat []))))) (rest := [5]) hΓ 0 5 rfl (by decide) (by kernel_rfl) B6 ?_ ?_
        · simp -implicitDefEqProofs only [encT, encTk, List.drop, List.take, lexK_nil, lexK_plain, go_sem, List.length_map, hgw, codeB]
          exact hkk
        intro tm7 a7 B7 hd7 hw7
        have B8 := B7.weak hw7
        clear B6 B7 hw7
        have hlk : (encL ws (ks.take k)).length + (ws.getD ks[k].toNat []).length ≤ 140737488355328 := by
          have h1 := encL_le ws ks (k + 1)
          rw [encL_take hlt, List.length_append] at h1
          omega
        refine write_ok (t := 51) (d := 52) (u := ws.getD ks[k].toNat []) rfl hW HW B8 (by decide) rfl hlk ?_
        intro a9 w9 B9 hd9
        have B10 := B9.weak (tm' := encTk ks k) (by simp [go_sem, encTk])
        rw [← encL_take hlt] at B10
        clear B8 B9
        change (Code.region _ _ _).wpIn _ _ _ _ _ _
        refine wpIn_region ?_
        refine simp_at (K := fun tm' => weakT tm' (encTk ks (k + 1))) hΓ 0 2 rfl (by decide) (by kernel_rfl) B10 ?_ ?_
        · simp -implicitDefEqProofs only [encT, encTk, List.drop, List.take, lexK_nil, lexK_plain, go_sem]
          exact ⟨by simp only [InR]; omega, by omega⟩
        intro tm11 a11 B11 hd11 hw11
        have B12 := B11.weak hw11
        refine ⟨⟨k + 1, hlt, B12⟩, ?_⟩
        rw [encTk_m B12]
        omega
      · have hnk : k = ks.length := by have := of_decide_eq_false hf; omega
        rw [hnk, List.take_length] at B3
        change (Code.seq _ _).wpIn _ _ _ _ _ _
        refine wpIn_seq (wpIn_region ?_)
        refine string_ok (k := 0) (rest := [1, 2]) (d := 54) rfl hS HS B3 ?_
        intro a4 w4 R4 hd4
        refine steps_at (KS := fun st => st.tmps.getD 4 .junk = .p (.str (encL ws ks)) ∧ st.tmps.getD 5 .junk = .p (.int .i64 0)) hΓ hE 1 rfl R4 ?_ ?_
        · exact ⟨rfl, rfl⟩
        intro st' a' w' hN ⟨h4, h5⟩
        refine wpIn_ret ⟨st', hN, ?_⟩
        rw [h4, h5]
        exact ⟨by simp [AM.Ends], rfl⟩
end Go.Proofs.YtaphjgjhpmmkmaaGreat
end

section
namespace Go.Proofs.YtaphjgjhpmmkmaaGreat
open Go Go.AM
set_option maxRecDepth 100000
set_option linter.unusedSimpArgs false

/-! ### What the readings of a parser mean -/
theorem prefs_head {q : Int} {ws : List (List UInt8)} (hv : Valid q ws) : ∃ h : 0 < (prefs ws).length, (prefs ws)[0] = [] := by
  have hne : [] ∈ prefs ws := by
    have h0 := hv.pos
    have := hv.ne' ws[0] (List.getElem_mem h0)
    exact mem_prefs.2 ⟨ws[0], List.getElem_mem h0, List.nil_prefix, List.length_pos_iff.2 this⟩
  have hs := prefs_strict ws
  cases hP : prefs ws with
  | nil => rw [hP] at hne; cases hne
  | cons x l =>
    refine ⟨by simp, ?_⟩
    rw [hP] at hne hs
    rcases List.mem_cons.1 hne with h | h
    · exact h.symm
    · rcases (List.pairwise_cons.1 hs).1 _ h with g | ⟨g, _⟩
      · simp at g
      · exact List.length_eq_zero_iff.1 g
theorem letter_of {b : UInt8} (h : 0 ≤ ixB b L16 0) : L16.getD (digN b) 0 = b := by
  obtain ⟨k, h1, h2⟩ := ixB_hit b L16 0 h
  unfold digN
  rw [h1, show ((0 + k : Nat) : Int).toNat = k by omega]
  exact h2
theorem stepW_of {b : UInt8} (x : List UInt8) (h : 0 ≤ ixB b L16 0) : stepW x (digN b) = x ++ [b] := by unfold stepW; rw [letter_of h]
theorem stp_nx {q : Int} {ws : List (List UInt8)} {s d : Nat} (hs : s < (prefs ws).length) (hd : (d : Int) < q) : stp (nxP q ws) s d = nextN ws (prefs ws) (stepW ((prefs ws).getD s []) d) := by
  have hd' : d < q.toNat := by omega
  unfold stp nxP nxL
  simp [List.getD_eq_getElem?_getD, hs, hd']
theorem stp_em {q : Int} {ws : List (List UInt8)} {s d : Nat} (hs : s < (prefs ws).length) (hd : (d : Int) < q) : stp (emP q ws) s d = ixW ws (stepW ((prefs ws).getD s []) d) := by
  have hd' : d < q.toNat := by omega
  unfold stp emP emL
  simp [List.getD_eq_getElem?_getD, hs, hd']
theorem ixW_getD {ws : List (List UInt8)} {x : List UInt8} (h : x ∈ ws) : ws.getD (ixW ws x).toNat [] = x ∧ 0 ≤ ixW ws x ∧ ixW ws x < ws.length := by
  rw [ixW_in h]
  obtain ⟨h1, h2⟩ := ixN_get h
  refine ⟨?_, by omega, by omega⟩
  rw [Int.toNat_natCast, List.getD_eq_getElem?_getD, List.getElem?_eq_getElem h1, Option.getD_some, h2]
theorem encL_cons (ws : List (List UInt8)) (k : Int) (ks : List Int) : encL ws (k :: ks) = ws.getD k.toNat [] ++ encL ws ks := rfl
theorem encIn_cons (ws : List (List UInt8)) (k : Int) (ks : List Int) : encIn ws (k :: ks) = (decide (0 ≤ k) && decide (k < ws.length) && encIn ws ks) := rfl
theorem outs_cons (e : Int) (n : Nat) (d : List (Int × Nat)) : outs ((e, n) :: d) = if 0 ≤ e then e :: outs d else outs d := by
  unfold outs
  by_cases h : 0 ≤ e <;> simp [h]
theorem head0 {q : Int} {ws : List (List UInt8)} (hv : Valid q ws) : (prefs ws).getD 0 [] = [] := by
  obtain ⟨h1, h2⟩ := prefs_head hv
  rw [List.getD_eq_getElem?_getD, List.getElem?_eq_getElem h1, Option.getD_some, h2]
theorem trail_says {q : Int} {ws : List (List UInt8)} (hv : Valid q ws) : ∀ (w : List UInt8) (s : Nat), okW q w = true → s < (prefs ws).length →
    encL ws (outs (trail (nxP q ws) (emP q ws) s w)) ++ (prefs ws).getD (endS s (trail (nxP q ws) (emP q ws) s w)) [] = (prefs ws).getD s [] ++ w.take (trail (nxP q ws) (emP q ws) s w).length ∧ encIn ws (outs (trail (nxP q ws) (emP q ws) s w)) = true
  | [], s, _, hs => by simp [trail, outs, encL, encIn, endS_nil]
  | b :: w, s, hw, hs => by
    have hd := dig_of hw b (by simp)
    have hw' : okW q w = true := by
      unfold okW at hw ⊢
      simp only [List.all_cons, Bool.and_eq_true] at hw
      exact hw.2
    have hdq : (digN b : Int) < q := by unfold digN; omega
    have hN := stp_nx (q := q) hs hdq
    have hE := stp_em (q := q) hs hdq
    rw [stepW_of _ hd.1] at hN hE
    unfold trail
    by_cases hn : stp (nxP q ws) s (digN b) < 0
    · rw [if_pos hn]; simp [outs, encL, encIn, endS_nil]
    · rw [if_neg hn]
      rw [outs_cons, endS_cons, List.length_cons, List.take_succ_cons]
      rw [hN] at hn ⊢
      rw [hE]
      generalize hx : (prefs ws).getD s [] = x at *
      have hp0 := (prefs_head hv).1
      by_cases hin : x ++ [b] ∈ ws
      · have e1 : nextN ws (prefs ws) (x ++ [b]) = 0 := by unfold nextN; rw [if_pos hin]
        obtain ⟨h1, h2, h3⟩ := ixW_getD hin
        rw [e1, if_pos h2, Int.toNat_zero, encL_cons, encIn_cons, h1]
        obtain ⟨i1, i2⟩ := trail_says hv w 0 hw' hp0
        rw [head0 hv, List.nil_append] at i1
        refine ⟨?_, by rw [i2, decide_eq_true h2, decide_eq_true h3]; rfl⟩
        rw [List.append_assoc, i1, List.append_assoc]; rfl
      · have e1 : nextN ws (prefs ws) (x ++ [b]) = ixW (prefs ws) (x ++ [b]) := by unfold nextN; rw [if_neg hin]
        rw [e1] at hn ⊢
        have hP : x ++ [b] ∈ prefs ws := ixW_ge.1 (by omega)
        obtain ⟨h1, h2, h3⟩ := ixW_getD hP
        rw [ixW_no hin, if_neg (by decide)]
        obtain ⟨i1, i2⟩ := trail_says hv w (ixW (prefs ws) (x ++ [b])).toNat hw' (by omega)
        rw [h1] at i1
        exact ⟨by rw [i1, List.append_assoc]; rfl, i2⟩
theorem encS_of {q : Int} {ws : List (List UInt8)} {ks : List Int} (hc : codeCheck q ws = 0) (hi : encIn ws ks = true) (hl : (encL ws ks).length ≤ 65536) : encE q ws ks = 0 ∧ encS q ws ks = encL ws ks := by
  have e : encE q ws ks = 0 := by unfold encE; rw [if_pos hc, if_pos hi, if_neg (by omega)]
  exact ⟨e, by unfold encS; rw [if_pos e]⟩
theorem run_of {q : Int} {P : List (List UInt8)} {N E : List (List Int)} {w : List UInt8} {s : Nat} (hI : parCheck q P N E = 0) (hs : s < P.length) (hw : wordCheck q w = 0) :
    runE' q P N E s w = (if (trail N E s w).length < w.length then 13 else 0) := by
  unfold runE' posE
  rw [if_pos hI, if_pos hw, if_neg (by omega), Int.toNat_natCast]

end Go.Proofs.YtaphjgjhpmmkmaaGreat
end

section
namespace Go.Proofs.YtaphjgjhpmmkmaaGreat
open Go Go.AM
set_option maxRecDepth 100000
set_option linter.unusedSimpArgs false

theorem inner_iff {ws : List (List UInt8)} {p : List UInt8} : Kn.Inner ws p ↔ p ∈ prefs ws := by
  rw [mem_prefs]
  unfold Kn.Inner
  constructor
  · rintro ⟨w, h1, h2, h3⟩
    exact ⟨w, h1, List.isPrefixOf_iff_prefix.1 h2, h3⟩
  · rintro ⟨w, h1, h2, h3⟩
    exact ⟨w, h1, List.isPrefixOf_iff_prefix.2 h2, h3⟩

theorem nextN_neg {ws P : List (List UInt8)} {x : List UInt8} : nextN ws P x = -1 ↔ x ∉ ws ∧ x ∉ P := by
  unfold nextN
  by_cases h : x ∈ ws
  · simp [h]
  · rw [if_neg h]
    by_cases h2 : x ∈ P
    · have := ixW_in h2
      rw [this]
      simp [h, h2]
    · rw [ixW_no h2]
      simp [h, h2]

theorem hole_iff {q : Int} {ws : List (List UInt8)} : holeB q ws = false ↔ Kn.Whole q.toNat ws := by
  unfold holeB
  rw [List.any_eq_false]
  constructor
  · intro h p hi a ha
    have hp := inner_iff.1 hi
    have h1 := h (nxL q.toNat ws (prefs ws) p) (List.mem_map.2 ⟨p, hp, rfl⟩)
    have h2 : nextN ws (prefs ws) (stepW p a) ≠ -1 := fun e => h1 (decide_eq_true (List.mem_map.2 ⟨a, List.mem_range.2 ha, e⟩))
    by_cases hw : stepW p a ∈ ws
    · exact .inr hw
    · refine .inl (inner_iff.2 ?_)
      by_cases hx : stepW p a ∈ prefs ws
      · exact hx
      · exact absurd (nextN_neg.2 ⟨hw, hx⟩) h2
  · intro h l hl hm
    obtain ⟨p, hp, rfl⟩ := List.mem_map.1 hl
    obtain ⟨a, ha, e⟩ := List.mem_map.1 (of_decide_eq_true hm)
    have ha' := List.mem_range.1 ha
    obtain ⟨h1, h2⟩ := nextN_neg.1 e
    rcases h p (inner_iff.2 hp) a ha' with h3 | h3
    · exact h2 (inner_iff.1 h3)
    · exact h1 h3

theorem trail_all {q : Nat} {N E : List (List Int)} (hT : Tbl q N E) (hN : ∀ l ∈ N, ∀ x ∈ l, 0 ≤ x) : ∀ (w : List UInt8) (s : Nat), (∀ b ∈ w, digN b < q) → s < N.length → (trail N E s w).length = w.length
  | [], s, _, _ => by simp [trail]
  | b :: w, s, hb, hs => by
    have hbq := hb b (by simp)
    have hrow := hT.rowN _ (List.getElem_mem hs)
    have hd : digN b < N[s].length := by omega
    have h0 := hN _ (List.getElem_mem hs) _ (List.getElem_mem hd)
    have h1 := hT.next _ (List.getElem_mem hs) _ (List.getElem_mem hd)
    have e := stp_at hs hd
    have hnn : ¬ stp N s (digN b) < 0 := by rw [e]; omega
    have et : trail N E s (b :: w) = (stp E s (digN b), (stp N s (digN b)).toNat) :: trail N E (stp N s (digN b)).toNat w := by
      conv => lhs; unfold trail
      rw [if_neg hnn]
    rw [et, List.length_cons, List.length_cons, trail_all hT hN w _ (fun c hc => hb c (by simp [hc])) (by rw [e]; omega)]

theorem nx_nonneg {q : Int} {ws : List (List UInt8)} (hh : holeB q ws = false) : ∀ l ∈ nxP q ws, ∀ x ∈ l, 0 ≤ x := fun l hl x hx => by
  have h1 := nxP_ge l hl x hx
  unfold holeB at hh
  rw [List.any_eq_false] at hh
  have h2 := hh l hl
  have h3 : x ≠ -1 := fun e => h2 (decide_eq_true (e ▸ hx))
  omega

theorem trail_code {q : Int} {ws : List (List UInt8)} (hv : Valid q ws) (hc : codeCheck q ws = 0) (hp : preB ws = true) (hh : holeB q ws = false) {w : List UInt8} (hw : okW q w = true) : (trail (nxP q ws) (emP q ws) 0 w).length = w.length := by
  obtain ⟨hT, h0⟩ := (isPar_of hc hp).tbl
  refine trail_all hT (nx_nonneg hh) w 0 (fun b hb => ?_) h0
  obtain ⟨h1, h2⟩ := dig_of hw b hb
  unfold digN
  have := hv.q2
  omega
end Go.Proofs.YtaphjgjhpmmkmaaGreat
end

section
namespace Go.Proofs.YtaphjgjhpmmkmaaGreat
open Go Go.AM
set_option maxRecDepth 100000
set_option maxHeartbeats 4000000
set_option linter.unusedSimpArgs false

theorem inner_emb {q : Nat} {ws : List (List UInt8)} {p : List UInt8} (h : Kn.Inner (made (ws ++ missing q ws)) p) : Kn.Inner ws p := by
  obtain ⟨w, h1, h2, h3⟩ := h
  rcases List.mem_append.1 (mem_made.1 h1) with hw | hw
  · exact ⟨w, hw, h2, h3⟩
  · obtain ⟨y, a, hy, _, rfl, _⟩ := mem_missing.1 hw
    obtain ⟨v, h4, h5, h6⟩ := hy
    refine ⟨v, h4, ?_, ?_⟩
    · rw [List.isPrefixOf_iff_prefix] at h2 h5 ⊢
      rw [List.length_append, List.length_singleton] at h3
      exact (List.prefix_of_prefix_length_le h2 (List.prefix_append y _) (by omega)).trans h5
    · rw [List.length_append, List.length_singleton] at h3
      omega
theorem nodup_subW : ∀ {l m : List (List UInt8)}, l.Nodup → (∀ x ∈ l, x ∈ m) → l.length ≤ m.length
  | [], m, _, _ => Nat.zero_le _
  | x :: l, m, hd, hs => by
    rw [List.nodup_cons] at hd
    have hx := hs x (by simp)
    have ih := nodup_subW (m := m.erase x) hd.2 fun y hy => (List.mem_erase_of_ne (fun e => hd.1 (by rw [← e]; exact hy))).2 (hs y (by simp [hy]))
    rw [List.length_erase_of_mem hx] at ih
    have := List.length_pos_of_mem hx
    rw [List.length_cons]; omega
theorem prefs_emb {q : Int} {ws : List (List UInt8)} (hv : Valid q ws) (hg : great36 q ws = false) :
    (prefs (made (ws ++ missing q.toNat ws))).length ≤ 64 ∧ ∀ x ∈ prefs (made (ws ++ missing q.toNat ws)), x.length ≤ 1000 := by
  unfold great36 muchC at hg
  simp only [Bool.or_eq_false_iff, List.any_eq_false, longW, Bool.and_eq_true, decide_eq_true_eq, decide_eq_false_iff_not] at hg
  obtain ⟨h1, h2, _⟩ := hg
  have h5 : ∀ w ∈ ws, w.length ≤ 5 := fun w hw => by
    have := h1 w hw
    have := (hv.words w hw).2.1
    omega
  have hsub : ∀ x ∈ prefs (made (ws ++ missing q.toNat ws)), x ∈ propers ws := fun x hx => by
    obtain ⟨w, i1, i2, i3⟩ := inner_emb (inner_iff.2 hx)
    exact mem_propers.2 ⟨w, i1, List.isPrefixOf_iff_prefix.1 i2, i3⟩
  have hl := nodup_subW (prefs_nodup _) hsub
  have hpl := propers_len h5
  refine ⟨by omega, fun x hx => ?_⟩
  obtain ⟨w, i1, _, i3⟩ := mem_propers.1 (hsub x hx)
  have := h5 w i1
  omega

theorem b4 (q : Int) (ws : List (List UInt8)) (w : List UInt8) (hws : ws.length ≤ 9223372036854775807) : PFn Tryz.prog 4 [codeV q ws, .str w] [.bool true] := by
  have e6 := p6 q ws hws
  have e10 := one_ok
  unfold oneR at e10
  unfold codeV at e6
  refine PFn.of_body hΓ Tryz.func4 (by kernel_rfl) rfl (AWp.seq (AWp.of_awpD [] hΓ hmix (by kernel_rfl) ?_))
  simp -implicitDefEqProofs only [Tryz.ntmps4, Tryz.results4, Nat.reduceAdd, Nat.reduceSub, codeV, go_sem]
  by_cases hb : preS q ws = false ∨ (12 : Int) < (w.length : Int)
  · refine AWp.seq ?_
    refine AWp.of_awpD [] hΓ hmix (by kernel_rfl) ?_
    rcases hb with hb | hb
    · rw [hb] at e6
      simp -implicitDefEqProofs only [go_sem]
      refine callK_fn e6 (.still rfl) ?_
      simp -implicitDefEqProofs only [go_sem]
      refine callK_fn awake_ok (.pures rfl) ?_
      simp -implicitDefEqProofs only [go_sem]
    · cases hp : preS q ws
      · rw [hp] at e6
        simp -implicitDefEqProofs only [go_sem]
        refine callK_fn e6 (.still rfl) ?_
        simp -implicitDefEqProofs only [go_sem]
        refine callK_fn awake_ok (.pures rfl) ?_
        simp -implicitDefEqProofs only [go_sem]
      · rw [hp] at e6
        simp -implicitDefEqProofs only [go_sem]
        refine callK_fn e6 (.still rfl) ?_
        simp -implicitDefEqProofs only [hb, go_sem]
        refine callK_fn awake_ok (.pures rfl) ?_
        simp -implicitDefEqProofs only [go_sem]
  obtain ⟨hp, h12⟩ := not_or.1 hb
  have hp : preS q ws = true := by simpa using hp
  rw [hp] at e6
  unfold preS at hp
  simp only [Bool.and_eq_true, Bool.not_eq_true', decide_eq_true_eq] at hp
  obtain ⟨hg, hc, hpf⟩ := hp
  have hv := valid_of hc
  have h2 := hv.q2
  have h16 := hv.q16
  have hq : ((q.toNat : Nat) : Int) = q := by omega
  have hq0 : q.toNat ≠ 0 := by omega
  have hE := chE_ok hc hpf
  have hpe := prefs_emb hv hg
  have hemb := emb_code hv hpf (n := 1) (by omega)
  rw [embL_one] at hemb
  obtain ⟨d1, d2, d3, d4, d5, d6⟩ := hemb
  have e17 := cm20 q ws
  have hmv : missV q ws = missing q.toNat ws := by unfold missV; rw [if_pos hE]
  unfold compV compE at e17
  rw [if_neg (by rw [hE]; simp), if_neg (by rw [hE]; simp), hmv] at e17
  have hsub : ∀ x ∈ ws, x ∈ made (ws ++ missing q.toNat ws) := fun x hx => mem_made.2 (List.mem_append_left _ hx)
  by_cases h64 : 64 < (made (ws ++ missing q.toNat ws)).length
  · unfold makeV at e17
    rw [d6 h64, if_neg (by decide)] at e17
    unfold codeV at e17
    refine AWp.seq ?_
    refine AWp.of_awpD [] hΓ hmix (by kernel_rfl) ?_
    simp -implicitDefEqProofs only [go_sem]
    refine callK_fn e6 (.still rfl) ?_
    simp -implicitDefEqProofs only [h12, go_sem]
    refine AWp.seq (AWp.of_awpD [] hΓ hmix (by kernel_rfl) ?_)
    simp -implicitDefEqProofs only [go_sem]
    refine callK_fn e17 (.still rfl) ?_
    simp -implicitDefEqProofs only [go_sem]
    refine AWp.seq (AWp.of_awpD [] hΓ hmix (by kernel_rfl) ?_)
    simp -implicitDefEqProofs only [show ((4 : Int) = 0) = False by simp, show ((4 : Int) = 4) = True by simp, go_sem]
    refine callK_fn awake_ok (.pures rfl) ?_
    simp -implicitDefEqProofs only [go_sem]
  have d5 := d5 (by omega)
  unfold makeV at e17
  rw [d5, if_pos rfl] at e17
  generalize hD : made (ws ++ missing q.toNat ws) = D at *
  have hvD := valid_of d5
  have e18 := t44 q D
  rw [d5] at e18
  have e13 := t38 q D
  rw [if_pos d5, if_pos d5, show aloneB (fun w x => x.isPrefixOf w) D = true from d2] at e13
  have hone := (rat_oneM (D := D) hq0).2 d3
  unfold oneR at hone
  have e9 := cm28 q D d5
  rw [hone] at e9
  have e19 := m19 q D d5 d2 hone
  have e8 := cm18 q D
  rw [chE_ok d5 d2, missV_nil (chE_ok d5 d2) d4] at e8
  have e20 := p12 q D
  unfold pR pE at e20
  rw [if_pos ⟨d5, d2⟩, if_pos d5, if_pos (show preB D = true from d2)] at e20
  have hpc := pcode_of hvD d2
  have hin : Kn.Inner D [] := ⟨D[0]'hvD.pos, List.getElem_mem _, rfl, List.length_pos_iff.2 (hvD.words _ (List.getElem_mem _)).1⟩
  have hole : holeB q D = false := hole_iff.2 ((hpc.one_iff hin).1 d3)
  have hwc : ∀ u, PFn Tryz.prog 21 [.sl (D.map .str), .str u] [.bool (decide (u ∈ D))] := fun u => cm32 D u (by have := hvD.len; omega)
  have e22 := t78 q w
  have hpar : parCheck q (prefs D) (nxP q D) (emP q D) = 0 := by unfold parCheck; rw [if_pos (isPar_of d5 d2)]
  have e23 := p29 q (prefs D) (nxP q D) (emP q D) 0 w hpe.1 hpe.2
  have h0P : 0 < (prefs D).length := (prefs_head hvD).1
  unfold parV at e20
  have hsays := fun hw : wordCheck q w = 0 => trail_says hvD w 0 (word_ok hw).1 h0P
  have hend := fun hw : wordCheck q w = 0 => endS_lt (isPar_of d5 d2).tbl.1 (by omega) w 0 (trail (nxP q D) (emP q D) 0 w).length (fun b hb => by
    obtain ⟨i1, i2⟩ := dig_of (word_ok hw).1 b hb
    unfold digN
    omega) (isPar_of d5 d2).tbl.2
  have hNl : (nxP q D).length = (prefs D).length := by unfold nxP; rw [List.length_map]
  have hP0 := head0 hvD
  have htr := fun hw : wordCheck q w = 0 => trail_code hvD d5 d2 hole (word_ok hw).1
  have hrun := fun hw : wordCheck q w = 0 => run_of (s := 0) hpar h0P hw
  generalize hPd : prefs D = P at *
  generalize nxP q D = N at *
  generalize emP q D = E at *
  unfold codeV at e17 e18 e13 e9 e19 e8 e20
  unfold psV at e20 e23
  refine AWp.seq ?_
  refine AWp.of_awpD [] hΓ hmix (by kernel_rfl) ?_
  simp -implicitDefEqProofs only [go_sem]
  refine callK_fn e6 (.still rfl) ?_
  simp -implicitDefEqProofs only [h12, go_sem]
  refine AWp.seq (AWp.of_awpD [] hΓ hmix (by kernel_rfl) ?_)
  simp -implicitDefEqProofs only [go_sem]
  refine callK_fn e17 (.still rfl) ?_
  simp -implicitDefEqProofs only [go_sem]
  refine AWp.seq (AWp.of_awpD [] hΓ hmix (by kernel_rfl) ?_)
  simp -implicitDefEqProofs only [go_sem]
  refine AWp.seq (AWp.of_awpD [] hΓ hmix (by kernel_rfl) ?_)
  simp -implicitDefEqProofs only [go_sem]
  refine callK_fn e18 (.still rfl) ?_
  simp -implicitDefEqProofs only [go_sem]
  refine AWp.seq (AWp.of_awpD [] hΓ hmix (by kernel_rfl) ?_)
  simp -implicitDefEqProofs only [go_sem]
  refine callK_fn e13 (.still rfl) ?_
  simp -implicitDefEqProofs only [go_sem]
  refine AWp.seq (AWp.of_awpD [] hΓ hmix (by kernel_rfl) ?_)
  simp -implicitDefEqProofs only [go_sem]
  refine callK_fn e9 (.still rfl) ?_
  simp -implicitDefEqProofs only [go_sem]
  refine AWp.seq (AWp.of_awpD [] hΓ hmix (by kernel_rfl) ?_)
  simp -implicitDefEqProofs only [go_sem]
  refine callK_fn e19 (.still rfl) ?_
  simp -implicitDefEqProofs only [go_sem]
  refine AWp.seq (AWp.of_awpD [] hΓ hmix (by kernel_rfl) ?_)
  simp -implicitDefEqProofs only [go_sem]
  refine callK_fn e8 (.still rfl) ?_
  simp -implicitDefEqProofs only [go_sem]
  refine AWp.seq (AWp.of_awpD [] hΓ hmix (by kernel_rfl) ?_)
  simp -implicitDefEqProofs only [go_sem]
  refine callK_fn e20 (.still rfl) ?_
  simp -implicitDefEqProofs only [go_sem]
  refine AWp.seq (AWp.of_awpD [(13, 25)] hΓ hmix (by kernel_rfl) ?_)
  simp -implicitDefEqProofs only [ite_self, go_sem]
  refine callVPK_fn e10 (.pures rfl) ?_
  simp -implicitDefEqProofs only [go_sem]
  refine aggRnM rfl rfl ?_
  simp -implicitDefEqProofs only [decide_true, Bool.and_self, Bool.not_true, List.map_nil, List.length_nil, show (((0 : Nat) : Int) = 0) = True by simp, go_sem]
  refine AWp.seq (AWp.of_awpD [] hΓ hmix (by kernel_rfl) ?_)
  simp -implicitDefEqProofs only [List.length_map, go_sem]
  refine AWp.loopI (fun i : Nat => ⟨mkF 157 [(1, .p (.str w)), (2, .ptr 0 0), (4, .p (.bool false)), (5, .ptr 1 0), (15, .ptr 3 0), (97, .p (.sl (ws.map .str))), (98, .p (.int .i64 ws.length)), (99, .p (.int .i64 i))],
      [.box [.p (.int .i64 q), .p (.sl (ws.map .str))], .box [.p (.int .i64 q), .p (.sl (D.map .str))], .dead, .box [.p (.int .i64 q), .p (.sl (P.map .str)), .p (.sl (N.map slI)), .p (.sl (E.map slI))]]⟩)
    (fun i => i ≤ ws.length) (fun i => ws.length - i) 0 (by simp [go_sem]) (by omega) ?_
  intro i hi
  refine AWp.of_awpD [] hΓ hmix (by kernel_rfl) ?_
  by_cases hlt : i < ws.length
  · have hgi : (ws.map PV.str).getD i default = .str ws[i] := getD_map_lt _ _ _ _ hlt
    have ec := hwc ws[i]
    rw [decide_eq_true (hsub _ (List.getElem_mem hlt))] at ec
    simp -implicitDefEqProofs only [hlt, hgi, Int.toNat_natCast, List.length_map, go_sem]
    refine callK_fn ec (.pures rfl) ?_
    simp -implicitDefEqProofs only [go_sem]
    exact ⟨by simp only [InR]; omega, i + 1, by simp, by omega, by omega⟩
  have hiL : i = ws.length := by omega
  subst hiL
  simp -implicitDefEqProofs only [Nat.lt_irrefl, Int.lt_irrefl, go_sem]
  refine AWp.seq (AWp.of_awpD [] hΓ hmix (by kernel_rfl) ?_)
  simp -implicitDefEqProofs only [go_sem]
  refine callK_fn e22 (.pures rfl) ?_
  by_cases hw : wordCheck q w = 0
  rotate_left
  · simp -implicitDefEqProofs only [hw, go_sem]
    refine callK_fn awake_ok (.pures rfl) ?_
    simp -implicitDefEqProofs only [go_sem]
  simp -implicitDefEqProofs only [hw, go_sem]
  have hr : runE' q P N E 0 w = 0 := by
    have h := hrun hw
    rw [htr hw, if_neg (Nat.lt_irrefl _)] at h
    exact h
  unfold runL runS at e23
  rw [hr, if_pos rfl, if_pos rfl, Int.toNat_zero] at e23
  have hs := hsays hw
  have he := hend hw
  rw [List.take_length, hNl] at he
  rw [htr hw, List.take_length, hP0, List.nil_append] at hs
  obtain ⟨hs1, hs2⟩ := hs
  have hL := Nat.le_trans (outs_len (trail N E 0 w)) (trail_len N E w 0)
  clear hsays htr hrun hend
  generalize outs (trail N E 0 w) = L at *
  generalize endS 0 (trail N E 0 w) = s at *
  have hel : (encL D L).length ≤ 65536 := by
    have := congrArg List.length hs1
    rw [List.length_append] at this
    omega
  have e24 := p38 q D L (by omega)
  rw [(encS_of d5 hs2 hel).1, (encS_of d5 hs2 hel).2] at e24
  unfold codeV at e24
  unfold slI at e23
  refine AWp.seq (AWp.of_awpD [] hΓ hmix (by kernel_rfl) ?_)
  simp -implicitDefEqProofs only [go_sem]
  refine callK_fn e23 (.still rfl) ?_
  simp -implicitDefEqProofs only [go_sem]
  have hPs : (P.map PV.str).getD s default = .str (P.getD s []) := by
    rw [getD_map_lt _ _ _ _ he, List.getD_eq_getElem?_getD, List.getElem?_eq_getElem he]; rfl
  have hs3 : ¬ ((s : Int) < 0) := by omega
  have hs4 : ¬ ((P.length : Int) ≤ (s : Int)) := by omega
  refine AWp.seq (AWp.of_awpD [] hΓ hmix (by kernel_rfl) ?_)
  simp -implicitDefEqProofs only [List.length_map, hs3, hs4, go_sem]
  refine AWp.seq (AWp.of_awpD [] hΓ hmix (by kernel_rfl) ?_)
  simp -implicitDefEqProofs only [go_sem]
  refine callK_fn e24 (.still rfl) ?_
  simp -implicitDefEqProofs only [go_sem]
  refine AWp.of_awpD [] hΓ hmix (by kernel_rfl) ?_
  simp -implicitDefEqProofs only [List.length_map, Int.toNat_natCast, hPs, hs1, decide_true, he, go_sem]
  have hlw : (encL D L).length + (P.getD s []).length = w.length := by rw [← List.length_append, hs1]
  refine ⟨by omega, callK_fn awake_ok (.pures rfl) ?_⟩
  simp -implicitDefEqProofs only [go_sem]
end Go.Proofs.YtaphjgjhpmmkmaaGreat
end

