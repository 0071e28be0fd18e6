/-
  Texts of this claim, joined.
-/
import Derived.Shelf.Strings.Builder1
import Derived.Test.YtpljmccnfmkmfaaProg
import Derived.Test.YtpljmccnfmkmfaaJ979e7fa6850f
import Derived.Test.YtpljmccnfmkmfaaJad56ffc20c8f
import Derived.Test.YtpljmccnfmkmfaaJ7d9ab9172b5e
import Derived.Test.YtpljmccnfmkmfaaJ77f17533d1a8

set_option linter.unusedSimpArgs false
set_option maxRecDepth 100000
section
namespace Go.Proofs
open Go.Shelf
def Try.lays166_ren : Go.Shelf.Ren := ⟨fun | 166 => 41 | 240 => 61 | 276 => 74 | n => n, fun | 70 => 70 | 9 => 9 | 3 => 3 | 75 => 75 | 0 => 0 | 72 => 73 | 37 => 71 | 4 => 4 | 164 => 102 | 20 => 20 | 5 => 5 | 80 => 78 | n => n, fun | n => n⟩
theorem Try.lays166 : Go.Proofs.Lays.n166 Try.prog Try.lays166_ren := {
  mixed := by kernel_rfl
  f166 := Try.func41.trans (congrArg some (by kernel_rfl))
  f240 := Try.func61.trans (congrArg some (by kernel_rfl))
  f276 := Try.func74.trans (congrArg some (by kernel_rfl))
  t0 := Try.underlying0
  a0 := Try.isAgg0
  z0 := Try.sizeOf0
  v0 := Try.zeroValue0
  t3 := Try.underlying3
  a3 := Try.isAgg3
  z3 := Try.sizeOf3
  v3 := Try.zeroValue3
  t4 := Try.underlying4
  a4 := Try.isAgg4
  z4 := Try.sizeOf4
  v4 := Try.zeroValue4
  t9 := Try.underlying9
  a9 := Try.isAgg9
  z9 := Try.sizeOf9
  v9 := Try.zeroValue9
  t20 := Try.underlying20
  a20 := Try.isAgg20
  z20 := Try.sizeOf20
  v20 := Try.zeroValue20
  t37 := Try.underlying71
  a37 := Try.isAgg71
  z37 := Try.sizeOf71
  v37 := Try.zeroValue71
  t70 := Try.underlying70
  a70 := Try.isAgg70
  z70 := Try.sizeOf70
  v70 := Try.zeroValue70
  t72 := Try.underlying73
  a72 := Try.isAgg73
  z72 := Try.sizeOf73
  v72 := Try.zeroValue73
  t75 := Try.underlying75
  a75 := Try.isAgg75
  z75 := Try.sizeOf75
  v75 := Try.zeroValue75
  t164 := Try.underlying102
  a164 := Try.isAgg102
  z164 := Try.sizeOf102
  v164 := Try.zeroValue102 }
def Try.lays169_ren : Go.Shelf.Ren := ⟨fun | 169 => 42 | n => n, fun | 70 => 70 | 9 => 9 | 0 => 0 | 72 => 73 | 37 => 71 | 127 => 92 | 3 => 3 | 5 => 5 | n => n, fun | n => n⟩
theorem Try.lays169 : Go.Proofs.Lays.n169 Try.prog Try.lays169_ren := {
  mixed := by kernel_rfl
  f169 := Try.func42.trans (congrArg some (by kernel_rfl))
  t0 := Try.underlying0
  a0 := Try.isAgg0
  z0 := Try.sizeOf0
  v0 := Try.zeroValue0
  t3 := Try.underlying3
  a3 := Try.isAgg3
  z3 := Try.sizeOf3
  v3 := Try.zeroValue3
  t9 := Try.underlying9
  a9 := Try.isAgg9
  z9 := Try.sizeOf9
  v9 := Try.zeroValue9
  t37 := Try.underlying71
  a37 := Try.isAgg71
  z37 := Try.sizeOf71
  v37 := Try.zeroValue71
  t70 := Try.underlying70
  a70 := Try.isAgg70
  z70 := Try.sizeOf70
  v70 := Try.zeroValue70
  t72 := Try.underlying73
  a72 := Try.isAgg73
  z72 := Try.sizeOf73
  v72 := Try.zeroValue73
  t127 := Try.underlying92
  a127 := Try.isAgg92
  z127 := Try.sizeOf92
  v127 := Try.zeroValue92 }
theorem Try.Builder_Extra_166 : Builder.Extra Try.prog Try.lays166_ren := {
  sizeBuilder := by kernel_rfl
  liesBuilder := by kernel_rfl
  t5 := Try.underlying5
  a5 := Try.isAgg5
  z5 := Try.sizeOf5
  v5 := Try.zeroValue5
  infoByte := by kernel_rfl
  cellsByte := by kernel_rfl
  sizeByte := by kernel_rfl
  neB5 := by decide }
theorem Try.Builder_Extra_169 : Builder.Extra Try.prog Try.lays169_ren := {
  sizeBuilder := by kernel_rfl
  liesBuilder := by kernel_rfl
  t5 := Try.underlying5
  a5 := Try.isAgg5
  z5 := Try.sizeOf5
  v5 := Try.zeroValue5
  infoByte := by kernel_rfl
  cellsByte := by kernel_rfl
  sizeByte := by kernel_rfl
  neB5 := by decide }
end Go.Proofs
end

section
namespace Go.Proofs.Ytpljmccnfmkmfaa
open Go Go.AM Go.RowKit

def encL (ws : List (List UInt8)) (ks : List Int) : List UInt8 := (ks.map fun k => ws.getD k.toNat []).flatten
def Z5r (ws : List (List UInt8)) (ks : List Int) : Bool := ks.all fun k => decide (0 ≤ k) && decide (k < ws.length)
def encE (q : Int) (ws : List (List UInt8)) (ks : List Int) : Int := if Zc q ws = 0 then (if Z5r ws ks = true then (if 65536 < (encL ws ks).length then 4 else 0) else 2) else 1
def encS (q : Int) (ws : List (List UInt8)) (ks : List Int) : List UInt8 := if encE q ws ks = 0 then encL ws ks else []
theorem Z5q {ws : List (List UInt8)} {ks : List Int} {i : Nat} (hi : i < ks.length) : encL ws (ks.take (i + 1)) = encL ws (ks.take i) ++ ws.getD ks[i].toNat [] := by
  unfold encL; rw [List.take_succ_eq_append_getElem hi, List.map_append, List.flatten_append]; simp only [List.map_cons, List.map_nil, List.flatten_cons, List.flatten_nil, List.append_nil]
theorem Zju (ws : List (List UInt8)) (ks : List Int) (i : Nat) : (encL ws (ks.take i)).length ≤ (encL ws ks).length := by
  have : encL ws ks = encL ws (ks.take i) ++ encL ws (ks.drop i) := by
    unfold encL; rw [← List.flatten_append, ← List.map_append, List.take_append_drop]
  rw [this, List.length_append]; omega
theorem Zbn {ws : List (List UInt8)} {ks : List Int} {i : Nat} (hi : i < ks.length) : Z5r ws (ks.take (i + 1)) = (Z5r ws (ks.take i) && (decide (0 ≤ ks[i]) && decide (ks[i] < ws.length))) := by
  unfold Z5r; rw [List.take_succ_eq_append_getElem hi, List.all_append]; simp
theorem Ze7 {ws : List (List UInt8)} {ks : List Int} {i : Nat} (hi : i < ks.length) (h : ks[i] < 0 ∨ (ws.length : Int) ≤ ks[i]) : Z5r ws ks = false := by
  unfold Z5r; rw [List.all_eq_false]; refine ⟨ks[i], List.getElem_mem hi, ?_⟩; simp; omega

def encT (ks : List Int) : List AV := mkF 55 [(1, .p (.sl (ks.map (.int .i64)))), (2, .ptr 0 0)]
def Z22 (ks : List Int) (k : Nat) : List AV := mkF 55 [(1, .p (.sl (ks.map (.int .i64)))), (2, .ptr 0 0), (41, .p (.sl (ks.map (.int .i64)))), (42, .p (.int .i64 ks.length)), (43, .p (.int .i64 k))]

theorem Ze6 {ks : List Int} {k : Nat} {X : Ctx} {I : Nat → Prop} {μ : Nat → Value} {ob : Nat → Option Nat} {h : List AObj} {wb w : World} {a : Act} {l : List UInt8} (B : Bld X I μ ob h wb 73 5 9 (Z22 ks k) l w a) :
    (match a.tmps.getD 43 undef with | .int _ k => ks.length - k.toNat | _ => 0) = ks.length - k := by
  have h1 := B.rep.evs (.tmp 43); have h2 : ev (Z22 ks k) (.tmp 43) = .p (.int .i64 k) := rfl; rw [h2] at h1; have h3 : a.tmps.getD 43 undef = .int .i64 k := h1.int_inv; rw [h3]; rfl

theorem p38 (q : Int) (ws : List (List UInt8)) (ks : List Int) (hk : ks.length ≤ 1000000) : PFn Try.prog 21 [Z02 q ws, .sl (ks.map (.int .i64))] [.str (encS q ws ks), .int .i64 (encE q ws ks)] := by
  refine PFn.of_body hΓ Try.func21 (by kernel_rfl) rfl (AWp.seq (Wd [] ?_)); simp -implicitDefEqProofs only [Try.ntmps21, Try.results21, Nat.reduceAdd, Nat.reduceSub, Z02, go_sem]; refine AWp.seq (Wd [] ?_); simp -implicitDefEqProofs only [go_sem]; refine Z4 (t45 q ws) (.still rfl) ?_; by_cases h : Zc q ws = 0
  rotate_left
  · have e1 : encE q ws ks = 1 := by unfold encE; rw [if_neg h]
    have e2 : encS q ws ks = [] := by unfold encS; rw [e1, if_neg (by decide)]
    rw [e1, e2]; simp -implicitDefEqProofs only [h, go_sem]
  have hv := Z38 h; have hlen := hv.len; rw [h]; simp -implicitDefEqProofs only [go_sem]; refine AWp.seq (Wd [] ?_); simp -implicitDefEqProofs only [go_sem]; refine AWp.seq (Wd [] ?_); simp -implicitDefEqProofs only [List.length_map, go_sem]
  refine AWp.loopI (fun i : Nat => ⟨mkF 55 [(1, .p (.sl (ks.map (.int .i64)))), (2, .ptr 0 0), (6, .p (.int .i64 (encL ws (ks.take i)).length)), (15, .p (.sl (ks.map (.int .i64)))), (16, .p (.int .i64 ks.length)), (17, .p (.int .i64 i))], [Z3 q ws]⟩)
    (fun i => i ≤ ks.length ∧ Z5r ws (ks.take i) = true ∧ (encL ws (ks.take i)).length ≤ 32 * i) (fun i => ks.length - i) 0 (by simp [go_sem, Z3, encL]) (by simp [Z5r, encL]) ?_
  rintro i ⟨hi, hin, hbd⟩; refine Wd [] ?_; by_cases hlt : i < ks.length
  · have hgk : (ks.map (PV.int .i64)).getD i default = .int .i64 ks[i] := by
      rw [Z5 _ _ _ _ hlt]
    by_cases hbad : ks[i] < 0 ∨ (ws.length : Int) ≤ ks[i]
    · have e1 : encE q ws ks = 2 := by unfold encE; rw [if_pos h, Ze7 hlt hbad]; rfl
      have e2 : encS q ws ks = [] := by unfold encS; rw [e1, if_neg (by decide)]
      rw [e1, e2]; by_cases hneg : ks[i] < 0
      · simp -implicitDefEqProofs only [List.length_map, hlt, hgk, hneg, Z3, go_sem]
      · have hge : (ws.length : Int) ≤ ks[i] := hbad.resolve_left hneg
        simp -implicitDefEqProofs only [List.length_map, hlt, hgk, hneg, hge, Z3, go_sem]
    · have hneg : ¬ ks[i] < 0 := fun h => hbad (.inl h)
      have hge : ¬ (ws.length : Int) ≤ ks[i] := fun h => hbad (.inr h)
      have hkn : ks[i].toNat < ws.length := by omega
      have hgw : (ws.map PV.str).getD ks[i].toNat default = .str (ws.getD ks[i].toNat []) := by
        rw [Z5 _ _ _ _ hkn, List.getD_eq_getElem?_getD, List.getElem?_eq_getElem hkn]; rfl
      have hsh := hv.short _ hkn; have hst := Z5q (ws := ws) hlt; have hl2 : (encL ws (ks.take (i + 1))).length = (encL ws (ks.take i)).length + (ws.getD ks[i].toNat []).length := by rw [hst, List.length_append]
      have hin2 : Z5r ws (ks.take (i + 1)) = true := by
        rw [Zbn hlt, hin, decide_eq_true (show 0 ≤ ks[i] by omega), decide_eq_true (show ks[i] < ws.length by omega)]; rfl
      simp -implicitDefEqProofs only [List.length_map, hlt, hgk, hneg, hge, hgw, Z3, go_sem]; exact ⟨⟨by omega, by omega⟩, by simp only [InR]; omega, by simp only [InR]; omega, i + 1, ⟨by omega, by omega⟩, ⟨hlt, hin2, by omega⟩, by omega⟩
  · have hin' : i = ks.length := by omega
    rw [hin', List.take_length] at hin hbd ⊢; have hz : ¬ (ks.length : Int) < ks.length := by omega
    simp -implicitDefEqProofs only [List.length_map, hz, go_sem]; refine AWp.seq (Wd [] ?_); by_cases hbig : 65536 < (encL ws ks).length
    · have hbig' : (65536 : Int) < (encL ws ks).length := by omega
      have e1 : encE q ws ks = 4 := by unfold encE; rw [if_pos h, if_pos hin, if_pos hbig]
      have e2 : encS q ws ks = [] := by unfold encS; rw [e1, if_neg (by decide)]
      rw [e1, e2]; simp -implicitDefEqProofs only [hbig', go_sem]
    · have hbig' : ¬ (65536 : Int) < (encL ws ks).length := by omega
      have e1 : encE q ws ks = 0 := by unfold encE; rw [if_pos h, if_pos hin, if_neg hbig]
      have e2 : encS q ws ks = encL ws ks := by unfold encS; rw [e1, if_pos rfl]
      rw [e1, e2]; simp -implicitDefEqProofs only [hbig', go_sem]; refine AWp.bstart (T := 73) (e := 5) (s := 9) (by kernel_rfl) (by simp [go_sem]) ?_; intro X I μ ob wb w a hE B; have BT := B.weak (tm' := encT ks) (by simp [go_sem, encT]); clear B
      have HW : ∀ (B b : Nat) (bs : List Value) (z : ByteArray) (w : World), Lib.IsBuilder 73 5 B b bs w → bs.length + z.size ≤ 140737488355328 → B ≤ w.heap.size →
          Calls Try.prog 41 #[.pointer (some ⟨b, 0, none⟩), .string z] w fun x w' => x = .returned (.tuple #[.int .i64 z.size, .nilIface]) ∧ (Lib.BuilderAt 73 5 B b (.pointer (some ⟨b, 0, none⟩)) (bs ++ Lib.strCells z) w' ∧ Below B w w') :=
        fun B b bs z w h1 h2 h3 => Any.Builder_WriteString Try.lays166 Try.Builder_Extra_166 B b bs z w h1 h2 h3
      have HS : ∀ (B b : Nat) (l : List UInt8) (w : World), Lib.IsBuilder 73 5 B b (Lib.byteCells l) w → B ≤ w.heap.size →
          Calls Try.prog 42 #[.pointer (some ⟨b, 0, none⟩)] w fun x w' => x = .returned (.string ⟨l.toArray⟩) ∧ Below B w w' :=
        fun B b l w h1 h2 => Any.Builder_String_any Try.lays169 Try.Builder_Extra_169 B b l w h1 h2
      have hW : Z2l Try.prog 41 := Z0u Try.func41 (by kernel_rfl) rfl; have hS : Z2l Try.prog 42 := Z0u Try.func42 (by kernel_rfl) rfl; refine wpIn_seq (wpIn_seq (wpIn_region ?_)); refine Z59 (K := fun tm' => Z4h tm' (Z22 ks 0)) hΓ 0 3 rfl (by decide) (by kernel_rfl) BT ?_ ?_
      · simp -implicitDefEqProofs only [encT, Z22, List.drop, List.take, Z3o, Z1r, go_sem]
        rfl
      intro tm1 a1 B1 hd1 hw1; have Bk := B1.weak hw1; clear BT B1 hw1; refine wpIn_block (wpIn_loop (fun a' w' => ∃ k, k ≤ ks.length ∧ Bld X I μ ob [Z3 q ws] wb 73 5 9 (Z22 ks k) (encL ws (ks.take k)) w' a') (fun a' _ => match a'.tmps.getD 43 undef with | .int _ k => ks.length - k.toNat | _ => 0) ⟨0, by omega, Bk⟩ ?_); rintro a2 w2 ⟨k, hkn, B2⟩; rw [Ze6 B2]; refine wpIn_seq (wpIn_region ?_); refine Z59 (K := fun tm' => ∃ v, tm' = putD (Z22 ks k) (some 44) v ∧ v = .p (.bool (decide (k < ks.length)))) hΓ 0 1 rfl (by decide) (by kernel_rfl) B2 ?_ ?_
      · simp -implicitDefEqProofs only [encT, Z22, List.drop, List.take, Z3o, Z1r, go_sem]
        exact ⟨_, rfl, rfl⟩
      rintro tm3 a3 B3 hd3 ⟨v, rfl, rfl⟩; have hc44 : a3.eval (.tmp 44) = .bool (decide (k < ks.length)) := by
        have h1 := B3.rep.evs (.tmp 44); have h2 : ev (putD (Z22 ks k) (some 44) (.p (.bool (decide (k < ks.length))))) (.tmp 44) = .p (.bool (decide (k < ks.length))) := rfl; rw [h2] at h1; exact h1.bool_inv
      refine wpIn_seq (wpIn_cond_split hc44 (fun ht => wpIn_skip ?_) (fun hf => wpIn_exit ?_))
      · have hlt : k < ks.length := of_decide_eq_true ht
        have hkk := List.all_eq_true.1 hin ks[k] (List.getElem_mem hlt); simp only [Bool.and_eq_true, decide_eq_true_eq] at hkk; have hkn2 : ks[k].toNat < ws.length := by omega
        have hgk : (ks.map (PV.int .i64)).getD k default = .int .i64 ks[k] := by rw [Z5 _ _ _ _ hlt]
        have hgw : (ws.map PV.str).getD ks[k].toNat default = .str (ws.getD ks[k].toNat []) := by
          rw [Z5 _ _ _ _ hkn2, List.getD_eq_getElem?_getD, List.getElem?_eq_getElem hkn2]; rfl
        have B4 := B3.weak (tm' := Z22 ks k) (by simp [go_sem, Z22]); clear B2 B3
        change (Code.seq _ _).wpIn _ _ _ _ _ _
        refine wpIn_seq (wpIn_block (wpIn_seq (wpIn_region ?_))); refine Z59 (K := fun tm' => Z4h tm' (putD (Z22 ks k) (some 11) (.p (.int .i64 ks[k])))) hΓ 0 3 rfl (by decide) (by kernel_rfl) B4 ?_ ?_
        · simp -implicitDefEqProofs only [encT, Z22, List.drop, List.take, Z3o, Z1r, go_sem, List.length_map, hlt, hgk]
        intro tm5 a5 B5 hd5 hw5; have B6 := B5.weak hw5; clear B4 B5 hw5
        change (Code.region _ _ _).wpIn _ _ _ _ _ _
        refine wpIn_region ?_; refine Z59 (K := fun tm' => Z4h tm' (putD (Z22 ks k) (some 51) (.p (.str (ws.getD ks[k].toNat []))))) (rest := [5]) hΓ 0 5 rfl (by decide) (by kernel_rfl) B6 ?_ ?_
        · simp -implicitDefEqProofs only [encT, Z22, List.drop, List.take, Z3o, Z1r, go_sem, List.length_map, hgw, Z3]
          exact hkk
        intro tm7 a7 B7 hd7 hw7; have B8 := B7.weak hw7; clear B6 B7 hw7; have hlk : (encL ws (ks.take k)).length + (ws.getD ks[k].toNat []).length ≤ 140737488355328 := by
          have h1 := Zju ws ks (k + 1); rw [Z5q hlt, List.length_append] at h1; omega
        refine Zf1 (t := 51) (d := 52) (u := ws.getD ks[k].toNat []) rfl hW HW B8 (by decide) rfl hlk ?_; intro a9 w9 B9 hd9; have B10 := B9.weak (tm' := Z22 ks k) (by simp [go_sem, Z22]); rw [← Z5q hlt] at B10; clear B8 B9
        change (Code.region _ _ _).wpIn _ _ _ _ _ _
        refine wpIn_region ?_; refine Z59 (K := fun tm' => Z4h tm' (Z22 ks (k + 1))) hΓ 0 2 rfl (by decide) (by kernel_rfl) B10 ?_ ?_
        · simp -implicitDefEqProofs only [encT, Z22, List.drop, List.take, Z3o, Z1r, go_sem]
          exact ⟨by simp only [InR]; omega, by omega⟩
        intro tm11 a11 B11 hd11 hw11; have B12 := B11.weak hw11; refine ⟨⟨k + 1, hlt, B12⟩, ?_⟩; rw [Ze6 B12]; omega
      · have hnk : k = ks.length := by have := of_decide_eq_false hf; omega
        rw [hnk, List.take_length] at B3
        change (Code.seq _ _).wpIn _ _ _ _ _ _
        refine wpIn_seq (wpIn_region ?_); refine Zc5 (k := 0) (rest := [1, 2]) (d := 54) rfl hS HS B3 ?_; intro a4 w4 R4 hd4; refine Zf7 (KS := fun st => st.tmps.getD 4 .junk = .p (.str (encL ws ks)) ∧ st.tmps.getD 5 .junk = .p (.int .i64 0)) hΓ hE 1 rfl R4 ?_ ?_
        · exact ⟨rfl, rfl⟩
        intro st' a' w' hN ⟨h4, h5⟩; refine wpIn_ret ⟨st', hN, ?_⟩; rw [h4, h5]; exact ⟨by simp [AM.Ends], rfl⟩
end Go.Proofs.Ytpljmccnfmkmfaa
end

section
namespace Go.Proofs.Ytpljmccnfmkmfaa
open Go Go.AM

theorem Zhu {q : Int} {ws : List (List UInt8)} (hc : Zc q ws = 0) {x : List Nat} (hx : ∀ k ∈ x, k < ws.length) (hl : (spW ws x).length ≤ 4096) (hn : ∀ y ∈ ws, y ≠ []) :
    PFn Try.prog 21 [Z02 q ws, slV x] [.str (spW ws x), .int .i64 0] := by
  have e := p38 q ws (zL x) (by
    have := Z70 hn hx; unfold zL; rw [List.length_map]
    omega)
  have h1 : encL ws (zL x) = spW ws x := by
    unfold encL zL spW; rw [List.map_map]
    rfl
  have h2 : Z5r ws (zL x) = true := by
    unfold Z5r zL; rw [List.all_eq_true]; intro k hk; obtain ⟨j, hj, rfl⟩ := List.mem_map.1 hk; have := hx j hj; simp only [Bool.and_eq_true, decide_eq_true_eq]; exact ⟨Int.natCast_nonneg j, Int.ofNat_lt.2 this⟩
  have h3 : encE q ws (zL x) = 0 := by
    unfold encE; rw [if_pos hc, if_pos h2, h1, if_neg (by omega)]
  unfold encS at e; rw [h3, if_pos rfl, h1, ← slV_z] at e; exact e

theorem Zge {l : List Nat} {i : Nat} (h : i < l.length) : (l.map ivN).getD i default = .int .i64 ((l.getD i 0 : Nat) : Int) := by
  rw [List.getD_eq_getElem?_getD, List.getElem?_map, List.getD_eq_getElem?_getD, List.getElem?_eq_getElem h]
  rfl

theorem v5 (q : Int) (ws : List (List UInt8)) (hws : ws.length ≤ 9223372036854775807) : PFn Try.prog 5 [Z02 q ws] [.bool true] := by
  have e12 := t12 q ws hws; unfold Z02 at e12; refine PFn.of_body hΓ Try.func5 (by kernel_rfl) rfl (AWp.seq (Wd [] ?_)); simp -implicitDefEqProofs only [Try.ntmps5, Try.results5, Nat.reduceAdd, Nat.reduceSub, Z02, go_sem]; refine AWp.seq (Wd [] ?_); simp -implicitDefEqProofs only [go_sem]; refine Z4 e12 (.still rfl) ?_
  cases hf : (! Z5k ws && decide (Zc q ws = 0))
  · simp -implicitDefEqProofs only [go_sem]
    refine Z4 Z7j (.pures rfl) ?_; simp -implicitDefEqProofs only [go_sem]
  simp only [Bool.and_eq_true, decide_eq_true_eq, Bool.not_eq_true'] at hf; have hc := hf.2; have hv := Z38 hc; by_cases hq3 : 3 < q
  · simp -implicitDefEqProofs only [hq3, go_sem]
    refine Z4 Z7j (.pures rfl) ?_; simp -implicitDefEqProofs only [go_sem]
  obtain ⟨p, rfl⟩ : ∃ p : Nat, q = p := ⟨q.toNat, by have := hv.q2; omega⟩; have hq2 := hv.q2; have hp : p ^ 8 ≤ 65536 := Nat.le_trans (Nat.pow_le_pow_left (show p ≤ 3 by omega) 8) (by decide); obtain ⟨o, ho⟩ := leA ws p 8 (by omega) (by omega); have eL := o14 hc (by omega) hp ho fun w hw => o35 p ws w hv.ne' (by have := hv.len; omega) (by omega)
  have eAw := Z7j; by_cases hr : Z24 ws []
  rotate_left
  · have hoN := ho.of_none hv.ne' (Z11 hv) hr
    subst hoN; have eA := r12d p ws hc hr; unfold Z02 noAV at eA; unfold Z02 at eL; simp -implicitDefEqProofs only [hq3, go_sem]; refine AWp.seq (Wd [] ?_); simp -implicitDefEqProofs only [go_sem]; refine Z4 eA (.still rfl) ?_; simp -implicitDefEqProofs only [go_sem]; refine AWp.seq (Wd [] ?_); simp -implicitDefEqProofs only [go_sem]; refine Z4 eL (.still rfl) ?_; simp -implicitDefEqProofs only [Option.isSome_none, go_sem]; refine AWp.seq (Wd [] ?_); simp -implicitDefEqProofs only [go_sem]; refine AWp.seq (Wd [] ?_); simp -implicitDefEqProofs only [Bool.not_false, go_sem]; refine Z4 eAw (.pures rfl) ?_; simp -implicitDefEqProofs only [go_sem]
  obtain ⟨w, x, y, l, hw, hxy, hne, hx, hy, ex, ey⟩ := Zkj hv hf.1 hr; have eA := r12 p ws hc hr hw hxy; obtain ⟨hx0, hy0, hlt, hla⟩ := hw.ends hv.ne' (Z11 hv) hxy; rcases ho.of_min hv (Z11 hv) hw (by omega) with ⟨h8, v, rfl, ev⟩ | ⟨h8, rfl⟩
  rotate_left
  · have h8' : (8 : Int) < (w.length : Int) := by omega
    unfold Z02 at eA eL; simp -implicitDefEqProofs only [hq3, go_sem]; refine AWp.seq (Wd [] ?_); simp -implicitDefEqProofs only [go_sem]; refine Z4 eA (.still rfl) ?_; simp -implicitDefEqProofs only [go_sem]; refine ⟨rfl, ?_⟩; refine AWp.seq (Wd [] ?_); simp -implicitDefEqProofs only [go_sem]; refine Z4 eL (.still rfl) ?_; simp -implicitDefEqProofs only [Option.isSome_none, go_sem]; refine AWp.seq (Wd [] ?_); simp -implicitDefEqProofs only [go_sem]; refine AWp.seq (Wd [] ?_); simp -implicitDefEqProofs only [Bool.not_true, h8', go_sem]; refine Z4 eAw (.pures rfl) ?_; simp -implicitDefEqProofs only [go_sem]
  have eL' : PFn Try.prog 14 [Z02 p ws, .int .i64 8] [.str w, .bool true, .int .i64 0] := by
    have := eL; simp only [Option.isSome_some, ev] at this; exact this
  have h8' : ¬ (8 : Int) < (w.length : Int) := by omega
  have hwl := hw.2.1; have eX := Zhu hc hx (by rw [ex]; exact hwl) hv.ne'; have eY := Zhu hc hy (by rw [ey]; exact hwl) hv.ne'; rw [ex] at eX; rw [ey] at eY; unfold Z02 at eA eL' eX eY; simp -implicitDefEqProofs only [hq3, go_sem]; refine AWp.seq (Wd [] ?_); simp -implicitDefEqProofs only [go_sem]; refine Z4 eA (.still rfl) ?_; simp -implicitDefEqProofs only [go_sem]; refine ⟨rfl, ?_⟩; refine AWp.seq (Wd [] ?_); simp -implicitDefEqProofs only [go_sem]; refine Z4 eL' (.still rfl) ?_; simp -implicitDefEqProofs only [go_sem]; refine AWp.seq (Wd [] ?_); simp -implicitDefEqProofs only [go_sem]; refine AWp.seq (Wd [] ?_); simp -implicitDefEqProofs only [Bool.not_true, h8', go_sem]; refine AWp.seq (Wd [] ?_); simp -implicitDefEqProofs only [go_sem]; refine Z4 eX (.still rfl) ?_; simp -implicitDefEqProofs only [go_sem]; refine AWp.seq (Wd [] ?_); simp -implicitDefEqProofs only [go_sem]; refine Z4 eY (.still rfl) ?_; simp -implicitDefEqProofs only [go_sem]; have hxl : 0 < x.length := List.length_pos_iff.2 hx0; have hyl : 0 < y.length := List.length_pos_iff.2 hy0; have hxL := Z70 hv.ne' hx; have hyL := Z70 hv.ne' hy; rw [ex] at hxL; rw [ey] at hyL; have hx1 : ¬ (x.length : Int) = 0 := by omega
  have hy1 : ¬ (y.length : Int) = 0 := by omega
  refine AWp.seq (Wd [(11, 8)] ?_); simp -implicitDefEqProofs only [slV, List.length_map, go_sem]; refine AWp.seq (Wd [] ?_); simp -implicitDefEqProofs only [hx1, hy1, go_sem]; have g1 := Zge hxl; have g2 := Zge hyl; have g3 := Zge (l := x) (i := x.length - 1) (by omega); have g4 := Zge (l := y) (i := y.length - 1) (by omega); have n3 : ((x.length : Int) - 1).toNat = x.length - 1 := by omega
  have n4 : ((y.length : Int) - 1).toNat = y.length - 1 := by omega
  have hlt' : ((x.getD 0 0 : Nat) : Int) < ((y.getD 0 0 : Nat) : Int) := by omega
  have hla' : ¬ ((x.getD (x.length - 1) 0 : Nat) : Int) = ((y.getD (y.length - 1) 0 : Nat) : Int) := by omega
  refine Wd [(14, 28)] ?_; simp -implicitDefEqProofs only [g1, g2, g3, g4, n3, n4, List.length_map, show Int.toNat 0 = 0 from rfl, hlt', hla', go_sem]; refine ⟨by omega, by omega, by simp only [InR]; omega, ⟨by omega, by omega⟩, by simp only [InR]; omega, ⟨by omega, by omega⟩, Z6r eAw (.pures rfl) ?_⟩; simp -implicitDefEqProofs only [go_sem]
end Go.Proofs.Ytpljmccnfmkmfaa
end

section
namespace Go.Proofs.Ytpljmccnfmkmfaa
open Go Go.AM Go.RowKit Go.ChangeShapes

theorem own : ownKnob Try.prog.godebug = none := by kernel_rfl
theorem Zjg : laidOutB Try.prog = true := by kernel_rfl

def Zhv : Sh := .agg [.int .i64, .sl .str]
theorem Zi5 {l : List PV} (h : ∀ i, i < l.length → Fit .str (l.getD i default)) : ∃ ws : List (List UInt8), l = ws.map .str ∧ ∀ w ∈ ws, w.length ≤ maxLen := by
  induction l with
  | nil => exact ⟨[], rfl, by simp⟩
  | cons x l ih =>
    obtain ⟨ws, h1, h2⟩ := ih (fun i hi => h (i + 1) (by simpa using hi)); have h0 := h 0 (by simp); simp only [List.getD_cons_zero] at h0
    cases h0 with
    | str s hs => exact ⟨s :: ws, by rw [h1]; rfl, fun w hw => by
        rcases List.mem_cons.1 hw with rfl | hw
        · exact hs
        · exact h2 w hw⟩
theorem Zf2 {p : PV} (h : Fit (.sl .str) p) : ∃ ws : List (List UInt8), p = .sl (ws.map .str) ∧ ws.length ≤ maxLen ∧ ∀ w ∈ ws, w.length ≤ maxLen := by
  cases h with
  | sl _ l h1 h2 =>
    obtain ⟨ws, rfl, h3⟩ := Zi5 h2; exact ⟨ws, rfl, by simpa using h1, h3⟩
theorem Zk0 {p : PV} (h : Fit Zhv p) : ∃ (q : Int) (ws : List (List UInt8)), p = Z02 q ws ∧ InR .i64 q ∧ ws.length ≤ maxLen ∧ ∀ w ∈ ws, w.length ≤ maxLen := by
  cases h with
  | agg _ l h1 h2 =>
    match l, h1 with
    | [x, y], _ =>
      have h3 := h2 0 (by simp); have h4 := h2 1 (by simp); simp only [List.getD_cons_zero, List.getD_cons_succ] at h3 h4; obtain ⟨ws, rfl, h5⟩ := Zf2 h4
      cases h3 with
      | int _ n hn => exact ⟨n, ws, rfl, hn, h5⟩
end Go.Proofs.Ytpljmccnfmkmfaa
end

