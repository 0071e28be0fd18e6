/-
  Texts of this claim, joined.
-/
import Derived.Shelf.Strings.OnBuilder
import Derived.Test.YtpljmccnfmkmfaaGreatJ5b7d53fdd7d5
import Derived.Test.YtpljmccnfmkmfaaGreatJ108f0c0dd468
import Derived.Test.YtpljmccnfmkmfaaGreatJe7a7d4a1b7e9
import Derived.Test.YtpljmccnfmkmfaaGreatJd1a375910626
import Derived.Test.YtpljmccnfmkmfaaGreatJ1de92fe06067
import Derived.Test.YtpljmccnfmkmfaaGreatJ1faccba7ec4a

set_option linter.unusedSimpArgs false
set_option maxRecDepth 1000000
section
namespace Go.Proofs
open Go.Shelf
def Tryz.lays156_ren : Go.Shelf.Ren := ⟨fun | 156 => 195 | 165 => 239 | 166 => 120 | 169 => 121 | 240 => 180 | 241 => 265 | 276 => 225 | 277 => 277 | n => n, fun | 0 => 0 | 3 => 3 | 4 => 4 | 5 => 5 | 9 => 9 | 20 => 20 | 31 => 22 | 37 => 65 | 70 => 116 | 72 => 118 | 75 => 120 | 76 => 121 | 80 => 123 | 127 => 160 | 164 => 191 | n => n, fun | n => n⟩
theorem Tryz.lays156 : Go.Proofs.Lays.n156 Tryz.prog Tryz.lays156_ren := {
  mixed := by kernel_rfl
  f156 := Tryz.func195.trans (congrArg some (by kernel_rfl))
  f165 := Tryz.func239.trans (congrArg some (by kernel_rfl))
  f166 := Tryz.func120.trans (congrArg some (by kernel_rfl))
  f169 := Tryz.func121.trans (congrArg some (by kernel_rfl))
  f240 := Tryz.func180.trans (congrArg some (by kernel_rfl))
  f241 := Tryz.func265.trans (congrArg some (by kernel_rfl))
  f276 := Tryz.func225.trans (congrArg some (by kernel_rfl))
  f277 := Tryz.func277.trans (congrArg some (by kernel_rfl))
  t0 := Tryz.underlying0
  a0 := Tryz.isAgg0
  z0 := Tryz.sizeOf0
  v0 := Tryz.zeroValue0
  t3 := Tryz.underlying3
  a3 := Tryz.isAgg3
  z3 := Tryz.sizeOf3
  v3 := Tryz.zeroValue3
  t4 := Tryz.underlying4
  a4 := Tryz.isAgg4
  z4 := Tryz.sizeOf4
  v4 := Tryz.zeroValue4
  t9 := Tryz.underlying9
  a9 := Tryz.isAgg9
  z9 := Tryz.sizeOf9
  v9 := Tryz.zeroValue9
  t20 := Tryz.underlying20
  a20 := Tryz.isAgg20
  z20 := Tryz.sizeOf20
  v20 := Tryz.zeroValue20
  t31 := Tryz.underlying22
  a31 := Tryz.isAgg22
  z31 := Tryz.sizeOf22
  v31 := Tryz.zeroValue22
  t37 := Tryz.underlying65
  a37 := Tryz.isAgg65
  z37 := Tryz.sizeOf65
  v37 := Tryz.zeroValue65
  t70 := Tryz.underlying116
  a70 := Tryz.isAgg116
  z70 := Tryz.sizeOf116
  v70 := Tryz.zeroValue116
  t72 := Tryz.underlying118
  a72 := Tryz.isAgg118
  z72 := Tryz.sizeOf118
  v72 := Tryz.zeroValue118
  t75 := Tryz.underlying120
  a75 := Tryz.isAgg120
  z75 := Tryz.sizeOf120
  v75 := Tryz.zeroValue120
  t76 := Tryz.underlying121
  a76 := Tryz.isAgg121
  z76 := Tryz.sizeOf121
  v76 := Tryz.zeroValue121
  t127 := Tryz.underlying160
  a127 := Tryz.isAgg160
  z127 := Tryz.sizeOf160
  v127 := Tryz.zeroValue160
  t164 := Tryz.underlying191
  a164 := Tryz.isAgg191
  z164 := Tryz.sizeOf191
  v164 := Tryz.zeroValue191 }
theorem Tryz.Builder_Extra_156 : Builder.Extra Tryz.prog Tryz.lays156_ren := {
  sizeBuilder := by kernel_rfl
  liesBuilder := by kernel_rfl
  t5 := Tryz.underlying5
  a5 := Tryz.isAgg5
  z5 := Tryz.sizeOf5
  v5 := Tryz.zeroValue5
  infoByte := by kernel_rfl
  cellsByte := by kernel_rfl
  sizeByte := by kernel_rfl
  neB5 := by decide }
end Go.Proofs
namespace Go.Proofs.YtpljmccnfmkmfaaGreat
open Go Go.AM Go.Shelf Go.RowKit
theorem join_fn (xs : List (List UInt8)) (sep : List UInt8) (hN : xs.length ≤ 140737488355328) (hlen : (Lib.join xs sep).length ≤ 140737488355328) : PFn Tryz.prog 195 [.sl (xs.map .str), .str sep] [.str (Lib.join xs sep)] := by
  refine ⟨entersF_of Tryz.func195 (by kernel_rfl) rfl, fun I w cargs himm hl hargs => ?_⟩
  obtain ⟨a, b, rfl⟩ : ∃ a b, cargs = [a, b] := by
    match cargs, hl with
    | [a, b], _ => exact ⟨a, b, rfl⟩
  have h0 := hargs 0 (by simp)
  have h1 := hargs 1 (by simp)
  simp only [List.getD_cons_zero, List.getD_cons_succ] at h0 h1
  obtain ⟨s, rfl, rfl⟩ : ∃ s : ByteArray, b = .string s ∧ sep = s.data.toList := by
    cases h1 with
    | str s => exact ⟨s, rfl, rfl⟩
  have fin : ∀ (e : Ending) (w' : World), e = .returned (.string ⟨(Lib.join xs s.data.toList).toArray⟩) ∧ Below w.heap.size w w' → ∃ cv I', e = .returned cv ∧ w.grownBy w' none ∧ (∀ g, I g → I' g) ∧ (∀ g, I' g → I g ∨ (w.heap.size ≤ g ∧ g < w'.heap.size)) ∧
      VR 0 (fun _ => undef) I' w' (packAV ([PV.str (Lib.join xs s.data.toList)].map .p)) cv := by
    rintro e w' ⟨rfl, hB⟩
    exact ⟨_, I, rfl, grown_of_below hB, fun _ h => h, fun g h => .inl h, .p _ _ (.str ⟨(Lib.join xs s.data.toList).toArray⟩)⟩
  by_cases hx : xs = []
  · subst hx
    obtain ⟨ad, c, rfl⟩ : ∃ ad c, a = .slice ad 0 c := by
      cases h0 with
      | sl0 ad c _ => exact ⟨ad, c, rfl⟩
      | sl l s2 g off cap cur E fz vs hl2 _ _ _ _ _ _ => exact absurd rfl hl2
    refine Calls.mono (P := Tryz.prog) (Any.strings_Join_none (ρ := Tryz.lays156_ren) Tryz.lays156 Tryz.Builder_Extra_156 ad c s w) ?_
    rintro e w' ⟨rfl, rfl⟩
    exact fin _ _ ⟨rfl, Below.refl _ _⟩
  · obtain ⟨_, g, off, cap, cur, E, fz, vs, rfl, hI, hw, hc, hs, hv, hr⟩ : ∃ (s2 g off cap : Nat) (cur : Array Value) (E : TypeId) (fz : Nat × Nat) (vs : Nat → Value), a = .slice (some ⟨g, off, none⟩) xs.length cap ∧ I g ∧ w.heap[g]? = some (.cells cur E fz) ∧ xs.length ≤ cap ∧ s2 = 1 ∧
        (∀ j, j < xs.length → cur[off + j]? = some (vs j)) ∧ ∀ j, (hj : j < xs.length) → PR I w (.str xs[j]) (vs j) := by
      generalize hxl : xs.map PV.str = l at h0
      cases h0 with
      | sl0 ad c _ => exact absurd (List.map_eq_nil_iff.1 hxl) hx
      | sl l s2 g off cap cur E fz vs hl2 hI hw hc hs hv hr =>
        subst hxl
        have h1 : s2 = 1 := by
          cases xs with
          | nil => exact absurd rfl hx
          | cons x xs => exact (hs (.str x) (by simp)).symm
        subst h1
        simp only [List.length_map, Nat.mul_one] at hv hr hc
        refine ⟨1, g, off, cap, cur, E, fz, vs, by rw [List.length_map], hI, hw, hc, rfl, hv, fun j hj => ?_⟩
        have := hr j 0 hj (by omega)
        rw [getD_map_lt _ _ _ _ hj] at this
        exact this
    have key := Any.strings_Join (ρ := Tryz.lays156_ren) Tryz.lays156 Tryz.Builder_Extra_156 g off cap (xs.map fun x => (⟨x.toArray⟩ : ByteArray)) s w (fun j x hj => by
      rw [List.getElem?_map] at hj
      have hjl : j < xs.length := by
        rcases Nat.lt_or_ge j xs.length with h | h
        · exact h
        · rw [List.getElem?_eq_none h] at hj; cases hj
      rw [List.getElem?_eq_getElem hjl] at hj
      injection hj with hj
      subst hj
      rw [cell_of_row w g _ cur E fz hw, hv j hjl]
      have := hr j hjl
      generalize vs j = v at this
      generalize xs[j] = y at this
      cases this with
      | str b => rfl) (himm g hI) (by simpa using hN) (by simpa using hc) (by rw [List.map_map]; simpa [Function.comp_def] using hlen)
    have e2 : (xs.map fun x => (⟨x.toArray⟩ : ByteArray)).map (·.data.toList) = xs := by rw [List.map_map]; simp [Function.comp_def]
    rw [e2, List.length_map] at key
    exact Calls.mono (P := Tryz.prog) key fin
end Go.Proofs.YtpljmccnfmkmfaaGreat
end

section
namespace Go.Proofs.YtpljmccnfmkmfaaGreat
open Go Go.AM

def strsOf : List PV → Option (List (List UInt8))
  | [] => some []
  | .str s :: l => (match strsOf l with
    | some r => some (s :: r)
    | none => none)
  | _ :: _ => none
theorem strsOf_some : ∀ {l : List PV} {r : List (List UInt8)}, strsOf l = some r → l = r.map .str
  | [], r, h => by injection h with h; subst h; rfl
  | .str s :: l, r, h => by
    have e : strsOf (.str s :: l) = (match strsOf l with | some r => some (s :: r) | none => none) := rfl
    rw [e] at h
    cases h2 : strsOf l with
    | none => rw [h2] at h; cases h
    | some r2 =>
      rw [h2] at h
      injection h with h
      subst h
      rw [strsOf_some h2]; rfl
  | .bool _ :: _, _, h => by cases h
  | .int _ _ :: _, _, h => by cases h
  | .sl _ :: _, _, h => by cases h
  | .agg _ :: _, _, h => by cases h
def joinE (l : List (List UInt8)) (s : List UInt8) : List UInt8 := match l with
  | [] => []
  | [x] => x
  | x :: y :: r => x ++ (s ++ joinE (y :: r) s)
theorem joinE_eq : ∀ (l : List (List UInt8)) (s : List UInt8), joinE l s = Lib.join l s
  | [], s => rfl
  | [x], s => (Lib.join_one x s).symm
  | x :: y :: r, s => by
    have ih := joinE_eq (y :: r) s
    have e : joinE (x :: y :: r) s = x ++ (s ++ joinE (y :: r) s) := rfl
    rw [e, ih, Lib.join_cons, Lib.join_cons]
    simp [Lib.joinTail]
def kn : FuncId → List PV → Option AV := fun f args => match f, args with
  | 195, [.sl l, .str s] => (match strsOf l with
    | some xs => if Nat.ble xs.length 1000 && Nat.ble (joinE xs s).length 100000 then some (.p (.str (joinE xs s))) else none
    | none => none)
  | 44, [.agg [.int .i64 2, .sl [.str [48], .str [48, 49], .str [49, 49]]]] => some (.tup [.p (.agg [.bool false, .str [1], .bool false, .str [1]]), .p (.int .i64 0)])
  | 91, [] => some (.p (.agg [.bool false, .str [1], .bool false, .str [1]]))
  | 224, [.int .i64 1] => some (.p (.str [1]))
  | 224, [.int .i64 2] => some (.p (.str [2]))
  | 87, [.agg [.int .i64 q, .sl l]] => (match strsOf l with
    | some ws => (match codeCheck q ws with
      | 0 => some (.p (.sl ((canE (Mc.begL ws)).map .str)))
      | _ => none)
    | none => none)
  | 88, [.sl s, .agg [.int .i64 _, .sl l], .int .u8 (.ofNat c)] => (match strsOf s, strsOf l with
    | some S, some ws => if Nat.ble S.length 1000 && (Nat.ble ws.length 1000 && Nat.blt c 256) then some (.p (.sl ((canE (Mc.rdS ws S (UInt8.ofNat c))).map .str))) else none
    | _, _ => none)
  | _, _ => none
def axA : FuncId → List AV → Option AV := fun f args => match f with
  | 195 => (AV.purL [] args).bind (kn 195)
  | 44 => (AV.purL [] args).bind (kn 44)
  | 91 => (AV.purL [] args).bind (kn 91)
  | 224 => (AV.purL [] args).bind (kn 224)
  | 87 => (AV.purL [] args).bind (kn 87)
  | 88 => (AV.purL [] args).bind (kn 88)
  | f => axT f args
def ptA : Plans := fun id n => match id, n with
  | 6, 18 => some (.q 0 (.q 1 (.q 2 (.q 3 (.q 4 (.q 5 (.q 6 (.q 7 (.q 8 (.q 9 (.q 10 (.q 11 (.q 12 (.q 13 (.q 14 (.e 15 (.s 2 (.s 3 (.s 4 (.q 16 (.e 17 .fin .nil))))) .nil))))))))))))))))
  | 7, 5 => some (.q 0 (.e 1 (.s 0 (.q 2 (.q 3 (.q 4 .fin)))) .nil))
  | 11, 16 => some (.q 0 (.q 1 (.q 2 (.q 3 (.q 4 (.q 6 (.q 7 (.q 8 (.q 9 (.q 10 (.q 11 (.q 12 (.e 5 (.s 6 (.s 7 (.s 8 (.s 9 (.s 10 (.s 11 (.s 12 (.q 13 (.e 14 (.s 0 (.s 1 (.s 2 (.s 3 (.s 4 (.s 6 (.s 7 (.s 8 (.s 9 (.s 10 (.s 11 (.s 12 (.s 13 (.e 15 .fin .nil)))))))))))))) .nil))))))))) (.e 14 (.s 0 (.s 1 (.s 2 (.s 3 (.s 4 (.s 6 (.s 7 (.s 8 (.s 9 (.s 10 (.s 11 (.s 12 (.e 5 (.s 6 (.s 7 (.s 8 (.s 9 (.s 10 (.s 11 (.s 12 (.q 13 (.e 15 .fin .nil))))))))) .nil))))))))))))) .nil))))))))))))))
  | 17, 5 => some (.q 0 (.q 1 (.e 2 (.s 1 (.e 3 (.q 4 .fin) .nil)) .nil)))
  | _, _ => none

theorem magB1 : magB 1 = [1] := by decide +kernel
theorem magB2 : magB 2 = [2] := by decide +kernel
theorem ratV_one : Kn.ratV 1 1 = .agg [.bool false, .str [1], .bool false, .str [1]] := by
  unfold Kn.ratV; rw [show Nat.gcd 1 1 = 1 by decide, Nat.div_one, magB1]
theorem ratV_half : Kn.ratV 1 2 = .agg [.bool false, .str [1], .bool false, .str [2]] := by
  unfold Kn.ratV; rw [show Nat.gcd 1 2 = 1 by decide, Nat.div_one, Nat.div_one, magB1, magB2]
theorem of_c : PFn Tryz.prog 44 [.agg [.int .i64 2, .sl [.str [48], .str [48, 49], .str [49, 49]]]] [.agg [.bool false, .str [1], .bool false, .str [1]], .int .i64 0] := by
  have e := cm28 2 [[48], [48, 49], [49, 49]] (by decide)
  have h : Kn.ratV (Kn.krS 2 [1, 2, 2]) (2 ^ 32) = .agg [.bool false, .str [1], .bool false, .str [1]] := by
    rw [← ratV_one]
    exact (Kn.low_eq (by decide) (by decide)).2 (by decide)
  rw [show ((2 : Int).toNat) = 2 from rfl, show ([[48], [48, 49], [49, 49]] : List (List UInt8)).map List.length = [1, 2, 2] from rfl, h] at e
  exact e
theorem of_d : PFn Tryz.prog 44 [.agg [.int .i64 2, .sl [.str [48, 48], .str [49, 49]]]] [.agg [.bool false, .str [1], .bool false, .str [2]], .int .i64 0] := by
  have e := cm28 2 [[48, 48], [49, 49]] (by decide)
  have h : Kn.ratV (Kn.krS 2 [2, 2]) (2 ^ 32) = .agg [.bool false, .str [1], .bool false, .str [2]] := by
    rw [← ratV_half]
    exact (Kn.low_eq (by decide) (by decide)).2 (by decide)
  rw [show ((2 : Int).toNat) = 2 from rfl, show ([[48, 48], [49, 49]] : List (List UInt8)).map List.length = [2, 2] from rfl, h] at e
  exact e
theorem one91 : PFn Tryz.prog 91 [] [.agg [.bool false, .str [1], .bool false, .str [1]]] := by
  have e := Kn.v58
  rw [ratV_one] at e
  exact e
theorem u224 (n : Nat) (hn : n < 9223372036854775808) : PFn Tryz.prog 224 [.int .i64 n] [.str (magB n)] := by
  refine ⟨entersF_of Tryz.func224 (by kernel_rfl) rfl, fun I w cargs himm hlen hargs => ?_⟩
  obtain ⟨a, rfl⟩ : ∃ a, cargs = [a] := by
    match cargs, hlen with
    | [a], _ => exact ⟨a, rfl⟩
  have h0 := hargs 0 (by simp)
  simp only [List.getD_cons_zero] at h0
  rw [(VR.p (n := 0) (μ := fun _ => undef) _ _ h0).int_inv]
  refine Calls.mono (P := Tryz.prog) (m108 n hn w) ?_
  rintro e w' ⟨rfl, hB⟩
  exact ⟨_, I, rfl, grown_of_below hB, fun _ h => h, fun g h => .inl h, .p _ _ (.str ⟨(magB n).toArray⟩)⟩
theorem kn_ok : ∀ f p v, kn f p = some v → ∃ vs, PFn Tryz.prog f p vs ∧ v = packAV (vs.map .p) := by
  intro f p v h
  unfold kn at h
  split at h
  · rename_i l s
    split at h
    · rename_i xs hx
      split at h
      · rename_i hb
        injection h with h
        simp only [Bool.and_eq_true] at hb
        have h1 := Nat.le_of_ble_eq_true hb.1
        have h2 := Nat.le_of_ble_eq_true hb.2
        have e := join_fn xs s (by omega) (by rw [← joinE_eq]; omega)
        rw [← joinE_eq, ← strsOf_some hx] at e
        exact ⟨_, e, h.symm⟩
      · cases h
    · cases h
  · injection h with h; exact ⟨_, of_c, h.symm⟩
  · injection h with h; exact ⟨_, one91, h.symm⟩
  · injection h with h
    have e := u224 1 (by omega)
    rw [magB1] at e
    exact ⟨_, e, h.symm⟩
  · injection h with h
    have e := u224 2 (by omega)
    rw [magB2] at e
    exact ⟨_, e, h.symm⟩
  · rename_i q l
    split at h
    · rename_i ws hx
      split at h
      · rename_i hc
        injection h with h
        have e := c87 q ws (valid_of hc)
        rw [← canE_eq] at e
        rw [strsOf_some hx]
        exact ⟨_, e, h.symm⟩
      · cases h
    · cases h
  · rename_i s q l c
    split at h
    · rename_i S ws hS hx
      split at h
      · rename_i hb
        injection h with h
        simp only [Bool.and_eq_true] at hb
        have h1 := Nat.le_of_ble_eq_true hb.1
        have h2 := Nat.le_of_ble_eq_true hb.2.1
        have h3 : c < 256 := Nat.le_of_ble_eq_true hb.2.2
        have e := c88 q ws S (UInt8.ofNat c) (by omega) (by omega)
        rw [← canE_eq, UInt8.toNat_ofNat', Nat.mod_eq_of_lt h3] at e
        rw [strsOf_some hS, strsOf_some hx]
        exact ⟨_, e, h.symm⟩
      · cases h
    · cases h
  · cases h
theorem axA_ok : ∀ f args v, axA f args = some v → AX Tryz.prog f args v ∨ ∀ h, AC Tryz.prog f args h [] (fun u h' => u = v ∧ h' = h) := by
  have go : ∀ f args v, (AV.purL [] args).bind (kn f) = some v → ∀ h, AC Tryz.prog f args h [] (fun u h' => u = v ∧ h' = h) := by
    intro f args v h
    obtain ⟨p, h1, h2⟩ := Option.bind_eq_some_iff.1 h
    obtain ⟨vs, h3, h4⟩ := kn_ok f p v h2
    subst h4
    exact fun h => AC.of_fn h3 (.inr h1)
  intro f args v h
  unfold axA at h
  split at h
  · exact .inr (go _ _ _ h)
  · exact .inr (go _ _ _ h)
  · exact .inr (go _ _ _ h)
  · exact .inr (go _ _ _ h)
  · exact .inr (go _ _ _ h)
  · exact .inr (go _ _ _ h)
  · exact .inl (axT_ok _ _ _ h)

theorem hEA : ECOK ⟨Tryz.prog, Γ, axA⟩ := ⟨hΓ, hmix, names_ok (by kernel_rfl), axA_ok⟩
end Go.Proofs.YtpljmccnfmkmfaaGreat
end

