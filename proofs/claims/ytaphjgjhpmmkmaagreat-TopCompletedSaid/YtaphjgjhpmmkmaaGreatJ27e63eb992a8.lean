/-
  The magnitude of a small number at the reference, walked with the kit's own words (an array of the function's own).
  completion.missing.
  completion.missing, walked.
  Codes without beginnings of others, plain.
  Missing.
  slices.Concat of empty lists; slices.Contains of numbers; Prune's test of indices.
  Complete.
  The example of the top statements: reckoned, but for the measure, whose contract is known.
-/
import Derived.WalkKit
import Derived.KernelRfl
import Derived.LoopTactic
import Derived.Test.YtaphjgjhpmmkmaaGreatJbbbb85f88272
import Derived.Test.YtaphjgjhpmmkmaaGreatJa03bca4a5a4e
import Derived.Test.YtaphjgjhpmmkmaaGreatJee6ede301e7f
import Derived.Test.YtaphjgjhpmmkmaaGreatJcd1bd097e029

section
namespace Go.Proofs.YtaphjgjhpmmkmaaGreat
open Go Go.RowKit Go.Proofs
set_option maxRecDepth 100000
set_option linter.unnecessarySimpa false

theorem magB_one (n : Nat) (h0 : n ≠ 0) (h : n < 256) : magB n = [UInt8.ofNat n] := by
  have := magB_step (c := n) (n := 0) h
  rw [Nat.mul_zero, Nat.add_zero, if_neg (fun e => h0 e.1), magB_zero] at this
  exact this

theorem m108 (n : Nat) (hn : n < 9223372036854775808) (w : World) : Calls Tryz.prog 108 #[.int .i64 n] w fun e w' => e = .returned (.string ⟨(magB n).toArray⟩) ∧ Below w.heap.size w w' := by
  go_enter Tryz.func108, Tryz.ntmps108
  go_wp2
  · have h0 : ((n : Int) == 0) = true := by assumption
    have : n = 0 := by simpa using h0
    subst this
    go_ret
    exact ⟨rfl, Below.refl _ _⟩
  · have h0 : ((n : Int) == 0) = false := by assumption
    have h256 : (n : Int) < 256 := by assumption
    have h0' : n ≠ 0 := by simpa using h0
    have hc := run_convert_bytes_back (P := Tryz.prog) (w.alloc (.cells #[Value.int .u8 n] 5)) 61 9 5 ⟨w.heap.size, 0, none⟩ 1 [UInt8.ofNat n] Tryz.underlying61 Tryz.underlying5 Tryz.underlying9 (by
      intro j hj
      have hj0 : j = 0 := by simpa using hj
      subst hj0
      have hmod : n % 256 = n := Nat.mod_eq_of_lt (by omega)
      simp [Addr.add, UInt8.toNat_ofNat', hmod])
    rw [show (Value.slice (some { block := w.heap.size, off := 0 }) 1 1) = .slice (some ⟨w.heap.size, 0, none⟩) [UInt8.ofNat n].length 1 from rfl, hc]
    simp only [Result.andThen]
    rw [Oper.upon_value]
    go_wp2
    go_ret
    exact ⟨by rw [magB_one n h0' (by omega)]; rfl, (Below.refl _ _).alloc (Nat.le_refl _) _⟩
  · go_loopw [0, 4] (fun x k wr => ∃ (m p : Nat) (L : List UInt8), x = .int .i64 m ∧ k = .int .i64 p ∧ p + L.length = 8 ∧ magB n = magB m ++ L ∧ m ≤ n ∧ Below w.heap.size w wr ∧ wr.heap.size = w.heap.size + 1 ∧
        (∀ i, i < 8 → (wr.cell? ⟨w.heap.size, i, none⟩).isSome = true ∧ wr.frozen? ⟨w.heap.size, i, none⟩ = false) ∧ (∀ i (hi : i < L.length), wr.cell? ⟨w.heap.size, p + i, none⟩ = some (.int .u8 (L[i].toNat : Int))))
      (fun x _ _ => (intOf x).toNat)
    case atStart =>
      refine ⟨n, 8, [], rfl, rfl, rfl, by simp, Nat.le_refl _, (Below.refl _ _).alloc (Nat.le_refl _) _, World.size_alloc _ _, fun i hi => ?_, fun i hi => by simp at hi⟩
      rw [World.cell?_alloc_new, World.frozen?_alloc_new]
      refine ⟨?_, rfl⟩
      simp [hi]
    case round =>
      obtain ⟨m, p, L, rfl, rfl, hpL, hL, hmn, hB, hsz, hc, hl⟩ := hrel
      have hp : m > 0 → 0 < p := fun h => by
        have h1 := congrArg List.length hL
        rw [List.length_append] at h1
        have h2 := magB_small (k := 8) (n := n) (by omega)
        have h3 : (magB m).length ≠ 0 := fun e => by have := magB_nil (List.length_eq_zero_iff.1 e); omega
        omega
      by_cases hm : m > 0
      · have hp' := hp hm
        obtain ⟨p, rfl⟩ : ∃ r, p = r + 1 := ⟨p - 1, by omega⟩
        obtain ⟨u, hu⟩ := Option.isSome_iff_exists.1 (hc p (by omega)).1
        have hfp' := (hc p (by omega)).2
        clear hp
        go_wp2
        refine ⟨⟨m / 256, p, UInt8.ofNat (m % 256) :: L, ?_, rfl, ?_, ?_, ?_, ?_, ?_, ?_, ?_⟩, ?_⟩
        · rw [Int.natCast_ediv]; rfl
        · rw [List.length_cons]; omega
        · have h4 := magB_step (c := m % 256) (n := m / 256) (Nat.mod_lt _ (by decide))
          rw [Nat.mod_add_div, if_neg (fun e => by omega)] at h4
          rw [hL, h4, List.append_assoc]; rfl
        · exact Nat.le_trans (Nat.div_le_self _ _) hmn
        · exact hB.setCell (Nat.le_refl _) _
        · rw [World.size_setCell]; exact hsz
        · intro i hi
          rw [World.frozen?_setCell]
          refine ⟨?_, (hc i hi).2⟩
          by_cases e : i = p
          · subst e; rw [World.cell?_setCell_same (h := hu)]; rfl
          · rw [World.cell?_setCell_other (h := show (⟨w.heap.size, p, none⟩ : Addr) ≠ ⟨w.heap.size, i, none⟩ from fun e2 => e (by injection e2 with _ e3; exact e3.symm))]; exact (hc i hi).1
        · intro i hi
          cases i with
          | zero =>
            rw [Nat.add_zero, World.cell?_setCell_same (h := hu)]
            have : m % 256 < 256 := Nat.mod_lt _ (by decide)
            simp [UInt8.toNat_ofNat']
          | succ i =>
            rw [World.cell?_setCell_other (h := show (⟨w.heap.size, p, none⟩ : Addr) ≠ ⟨w.heap.size, p + (i + 1), none⟩ from fun e2 => by injection e2 with _ e3; omega), show p + (i + 1) = p + 1 + i by omega]
            exact hl i (by simpa using hi)
        · simp [intOf]; omega
      · have hm0 : m = 0 := by omega
        subst hm0
        clear hp
        rw [magB_zero, List.nil_append] at hL
        have hLn : L ≠ [] := fun e => by
          rw [e] at hL
          have := magB_nil hL
          omega
        have hLl := List.length_pos_iff.2 hLn
        have eL : Tryz.prog.arrayLen 168 = 8 := by kernel_rfl
        have eE : Tryz.prog.elem 168 = 5 := by kernel_rfl
        have hsl := run_sliceAt_array_l (P := Tryz.prog) wr 168 ⟨w.heap.size, 0, none⟩ (by rw [eL, eE]; exact Tryz.underlying168) .i64 (p : Int) (by omega) (by rw [eL]; omega)
        rw [eL, eE] at hsl
        have hcv := run_convert_bytes_back (P := Tryz.prog) wr 61 9 5 ⟨w.heap.size, p, none⟩ L.length L Tryz.underlying61 Tryz.underlying5 Tryz.underlying9 (fun j hj => by
          have h5 := hl j hj
          by_cases e : j = 0
          · subst e; simpa [Addr.add] using h5
          · simpa [Addr.add, e] using h5)
        go_wp2
        rw [show 8 - p = L.length by omega, hcv]
        simp only [Result.andThen]
        rw [Oper.upon_value]
        go_wp2
        go_ret
        exact ⟨by rw [hL]; rfl, hB⟩
end Go.Proofs.YtaphjgjhpmmkmaaGreat
end

section
namespace Go.Proofs.YtaphjgjhpmmkmaaGreat
open Go Go.AM Go.RowKit
set_option maxRecDepth 100000
set_option maxHeartbeats 4000000
set_option linter.unusedSimpArgs false

theorem km107 (a b : ByteArray) (w : World) : Calls Tryz.prog 69 #[.string a, .string b] w fun e w' => e = .returned (.int .i64 (cmpK a.data.toList b.data.toList)) ∧ ∃ q os, w' = Sort.grow (w.drewN q) os := by
  have hc1 := k103
  have hc2 := k104
  have hc3 := k102
  go_enter Tryz.func69, Tryz.ntmps69
  go_wp2_with (first | (go_at_call 58; refine (hc1 _ _ _).mono ?_; rintro e w' ⟨rfl, rfl⟩) | (go_at_call 75; refine (hc2 _ _ _).mono ?_; rintro e w' ⟨rfl, rfl⟩) | (go_at_call 74; refine (hc3 _ _ _ _ _ (newCells _ _ _ _ _ rfl) (newCells _ _ _ _ _ rfl)).mono ?_; rintro e w' ⟨rfl, rfl⟩))
  all_goals go_ret
  all_goals have e1 : ∀ x : ByteArray, x.data.toList.length = x.size := fun x => by simp
  · refine ⟨congrArg (fun n => Ending.returned (Value.int .i64 n)) ?_, 0, #[_], by rw [Sort.alloc_eq_grow]; rfl⟩
    have hs : a.size = b.size := by
      rcases Nat.lt_trichotomy a.size b.size with g | g | g
      · rw [if_pos g] at h; cases h
      · exact g
      · rw [if_neg (by omega), if_pos g] at h; cases h
    unfold cmpK
    simp only [e1, hs]
    rw [if_pos (by simp)]
  · refine ⟨congrArg (fun n => Ending.returned (Value.int .i64 n)) ?_, 0, #[_], by rw [Sort.alloc_eq_grow]; rfl⟩
    unfold cmpK
    simp only [e1]
    rw [if_pos (show (a.size : Int) < b.size by omega)]; rfl
  · refine ⟨congrArg (fun n => Ending.returned (Value.int .i64 n)) ?_, 0, #[_], by rw [Sort.alloc_eq_grow]; rfl⟩
    unfold cmpK
    simp only [e1]
    rw [if_neg (show ¬ (a.size : Int) < b.size by omega), if_pos (show (b.size : Int) < a.size by omega)]; rfl
theorem sort_calls107 (d : List (List UInt8)) (blk off cap : Nat) (w : World) (hH : Sort.Holds encW w blk off d.toArray) (hblk : blk < w.heap.size) (hsz : d.length < 4611686018427387904) :
    Calls Tryz.prog 68 #[.slice (some ⟨blk, off, none⟩) d.length cap, .func (.func 69) #[] #[]] w fun e w' => e = .returned (.tuple #[]) ∧ ∃ n os, w' = sortWorld encW w blk off n (sortW d).toArray os := by
  have eg : ∀ args w, (callFunc 69 args).run Tryz.prog w = .ok (.enter 69 args) w := entersF_of Tryz.func69 (by kernel_rfl) rfl
  have hcmp : CmpLays1 Tryz.prog 69 #[] encW cmpK blk off d.toArray.size w := fun m os dk _ x y => km107 ⟨x.toArray⟩ ⟨y.toArray⟩ _
  have h := Any.slices_SortFunc_total Tryz.sortS encW (fun _ => rfl) cmpK swoW 69 #[] blk off cap d.toArray w eg hcmp hH hblk (by simpa using hsz) (fun x y h1 h2 => ltW_total ((ltOf_false x y).1 h1) ((ltOf_false y x).1 h2))
  exact h
theorem cm106 {h : List AObj} {b : Nat} (l : List (List UInt8)) (hb : h[b]? = some (.row 9 1 (l.map .str) .own)) (hsz : l.length ≤ 1000000) :
    AC Tryz.prog 68 [.own b l.length, .fn 69 []] h [] (fun v h' => v = .tup [] ∧ h' = h.set b (.row 9 1 ((sortW l).map .str) .own)) := c83_of sort_calls107 l hb hsz

def letA (a : Nat) : UInt8 := L16.getD a 0
def begB (ws : List (List UInt8)) (x : List UInt8) : Bool := ws.any fun y => x.isPrefixOf y
def missA (ws : List (List UInt8)) (p : List UInt8) (a : Nat) : List (List UInt8) := if begB ws (p ++ [letA a]) = true then [] else [p ++ [letA a]]
def missP (ws : List (List UInt8)) (p : List UInt8) (k : Nat) : List (List UInt8) := (List.range k).flatMap (missA ws p)
def missW (q : Nat) (ws : List (List UInt8)) (w : List UInt8) (n : Nat) : List (List UInt8) := (List.range n).flatMap fun m => missP ws (w.take m) q
def missL (q : Nat) (ws : List (List UInt8)) (i : Nat) : List (List UInt8) := (List.range i).flatMap fun j => missW q ws (ws.getD j []) (ws.getD j []).length
def missing (q : Nat) (ws : List (List UInt8)) : List (List UInt8) := made (missL q ws ws.length)

theorem missP_succ (ws : List (List UInt8)) (p : List UInt8) (k : Nat) : missP ws p (k + 1) = missP ws p k ++ missA ws p k := by unfold missP; rw [List.range_succ, List.flatMap_append]; simp
theorem missW_succ (q : Nat) (ws : List (List UInt8)) (w : List UInt8) (n : Nat) : missW q ws w (n + 1) = missW q ws w n ++ missP ws (w.take n) q := by unfold missW; rw [List.range_succ, List.flatMap_append]; simp
theorem missL_succ {q : Nat} {ws : List (List UInt8)} {i : Nat} (hi : i < ws.length) : missL q ws (i + 1) = missL q ws i ++ missW q ws ws[i] ws[i].length := by
  have e : ws.getD i [] = ws[i] := by rw [List.getD_eq_getElem?_getD, List.getElem?_eq_getElem hi, Option.getD_some]
  unfold missL; rw [List.range_succ, List.flatMap_append, List.flatMap_singleton, e]
theorem missP_len (ws : List (List UInt8)) (p : List UInt8) : ∀ k, (missP ws p k).length ≤ k
  | 0 => by simp [missP]
  | k + 1 => by
    have ih := missP_len ws p k
    rw [missP_succ, List.length_append]
    unfold missA
    split <;> simp only [List.length_nil, List.length_cons] <;> omega
theorem missW_len (q : Nat) (ws : List (List UInt8)) (w : List UInt8) : ∀ n, (missW q ws w n).length ≤ q * n
  | 0 => by simp [missW]
  | n + 1 => by
    have ih := missW_len q ws w n
    have h2 := missP_len ws (w.take n) q
    rw [missW_succ, List.length_append, Nat.mul_succ]
    omega
theorem missL_len {q : Nat} {ws : List (List UInt8)} (hq : q ≤ 16) (hw : ∀ x ∈ ws, x.length ≤ 32) : ∀ i, i ≤ ws.length → (missL q ws i).length ≤ 512 * i
  | 0, _ => by simp [missL]
  | i + 1, hi => by
    have ih := missL_len hq hw i (by omega)
    have h2 := missW_len q ws ws[i] ws[i].length
    have h3 := hw ws[i] (List.getElem_mem _)
    rw [missL_succ hi, List.length_append]
    have : q * ws[i].length ≤ 16 * 32 := Nat.mul_le_mul hq h3
    omega

def rkOf (l : List (List UInt8)) : RK := if l = [] then .lax else .own
theorem rkOf_snoc (l : List (List UInt8)) (x : List UInt8) : rkOf (l ++ [x]) = .own := by unfold rkOf; rw [if_neg (by simp)]
end Go.Proofs.YtaphjgjhpmmkmaaGreat
end

section
namespace Go.Proofs.YtaphjgjhpmmkmaaGreat
open Go Go.AM Go.RowKit
set_option maxRecDepth 100000
set_option maxHeartbeats 4000000
set_option linter.unusedSimpArgs false

def miH (q : Nat) (ws : List (List UInt8)) (out : List (List UInt8)) (w : List UInt8) (rec : AObj) : List AObj :=
  [.box [.p (.int .i64 q), .p (.sl (ws.map .str))], .box [.own 2 out.length], .row 9 1 (out.map .str) (rkOf out), .box [.p (.str w)], rec]

theorem sub_letters {a : Nat} (ha : a < 16) : List.take 1 (List.drop a [48, 49, 50, 51, 52, 53, 54, 55, 56, 57, 97, 98, 99, 100, 101, 102]) = [letA a] := by
  have : ∀ a, a < 16 → List.take 1 (List.drop a ([48, 49, 50, 51, 52, 53, 54, 55, 56, 57, 97, 98, 99, 100, 101, 102] : List UInt8)) = [letA a] := by decide
  exact this a ha

theorem AWp.name {E : Env} {r : Option Nat} {c : Code} {Q : Exit → St → Prop} {tm : List AV} {h : List AObj} (hw : ∀ h0, h0 = h → AWp E r c Q ⟨tm, h0⟩) : AWp E r c Q ⟨tm, h⟩ := hw h rfl
theorem c116m {q : Nat} {ws : List (List UInt8)} {out : Nat → List (List UInt8)} {w : List UInt8} (hwl : w.length ≤ 100000) {tm : List AV} {ps : List Nat} {cs bd : Code}
    (hround : ∀ n, n < w.length + 1 → n ≤ w.length → YC Tryz.prog 4 [.p (.str (w.take n))] (miH q ws (out n) w (.lp tm ps cs bd .ready)) [2] (fun v h' => v = .p (.bool true) ∧ h' = miH q ws (out (n + 1)) w (.lp tm ps cs bd .ready))) :
    AC Tryz.prog 100 [.yld 4, .ptr 3 0] (miH q ws (out 0) w (.lp tm ps cs bd .ready)) [2] (fun _ h' => h' = miH q ws (out (w.length + 1)) w (.lp tm ps cs bd .ready)) :=
  c116 (by simp) (by simp) w hwl (fun n => miH q ws (out n) w (.lp tm ps cs bd .ready)) (w.length + 1) (w.length + 1) (by simp [miH]) (fun n _ => rfl) hround (.inl ⟨rfl, rfl⟩)

theorem cm62 (q : Nat) (ws : List (List UInt8)) (hv : Valid q ws) : PFn Tryz.prog 33 [codeV q ws] [.sl ((missing q ws).map .str)] := by
  have hlen := hv.len
  have hq16 := hv.q16
  have hws := hv.words
  refine PFn.of_body hΓ Tryz.func33 (by kernel_rfl) rfl (AWp.seq (AWp.of_awpD [] hΓ hmix (by kernel_rfl) ?_))
  simp -implicitDefEqProofs only [Tryz.ntmps33, Tryz.results33, Nat.reduceAdd, Nat.reduceSub, codeV, go_sem]
  refine AWp.seq (AWp.of_awpD [] hΓ hmix (by kernel_rfl) ?_)
  simp -implicitDefEqProofs only [go_sem]
  refine AWp.adoptBox (l := []) 1 9 1 rfl (by simp) ?_
  simp -implicitDefEqProofs only [List.set_cons_zero, List.set_cons_succ, go_sem]
  refine AWp.seq (AWp.of_awpD [] hΓ hmix (by kernel_rfl) ?_)
  simp -implicitDefEqProofs only [go_sem]
  refine AWp.loopJ (fun i : Nat => ⟨mkF 49 [(1, .ptr 0 0), (3, .ptr 1 0), (10, .p (.sl (ws.map .str))), (11, .p (.int .i64 ws.length)), (12, .p (.int .i64 i))], [.box [.p (.int .i64 q), .p (.sl (ws.map .str))], .box [.own 2 (missL q ws i).length], .row 9 1 ((missL q ws i).map .str) (rkOf (missL q ws i))]⟩)
    (fun i => i ≤ ws.length) (fun i => ws.length - i) 0 (fun x => by simp [BelowAll, mkF, AV.blw, AV.blw.blwL, blwH, AObj.blw]) (by simp [go_sem, missL, rkOf]) (by omega) ?_
  intro i hi
  refine AWp.seq (AWp.of_awpD [] hΓ hmix (by kernel_rfl) ?_)
  simp -implicitDefEqProofs only [go_sem]
  by_cases hlt : i < ws.length
  · have hlt' : (i : Int) < (ws.length : Int) := by omega
    have hg : (ws.map PV.str).getD i default = .str ws[i] := getD_map_lt _ _ _ _ hlt
    obtain ⟨hw0, hw32, hwc⟩ := hws ws[i] (List.getElem_mem hlt)
    have hwp : 0 < ws[i].length := List.length_pos_iff.2 hw0
    refine AWp.seq (AWp.of_awpD [] hΓ hmix (by kernel_rfl) ?_)
    simp -implicitDefEqProofs only [hlt, go_sem]
    refine AWp.seq (AWp.block ?_)
    refine AWp.seq (AWp.of_awpD [] hΓ hmix (by kernel_rfl) ?_)
    simp -implicitDefEqProofs only [hlt, hg, Int.toNat_natCast, go_sem]
    refine AWp.seq (AWp.of_awpD [] hΓ hmix (by kernel_rfl) ?_)
    simp -implicitDefEqProofs only [go_sem]
    refine ⟨by simp only [InR]; omega, ⟨by omega, by omega⟩, ?_⟩
    refine callK_ac (c73 _) (by simp) ?_
    rintro v h' ⟨rfl, rfl⟩
    simp -implicitDefEqProofs only [killAll, List.foldl, go_sem]
    generalize hwe : ws[i] = w at *
    have hz : ((w.length : Int) - 1).toNat = w.length - 1 := by omega
    rw [hz]
    have hlL := missL_len (q := q) (ws := ws) (by omega) (fun x hx => (hws x hx).2.1) i (by omega)
    have hs0 := missL_succ (q := q) hlt
    rw [hwe] at hs0
    have htk : ∀ n, n ≤ w.length - 1 → (w.take (w.length - 1)).take n = w.take n := fun n hn => by rw [List.take_take, Nat.min_eq_left hn]
    have hwl' : (w.take (w.length - 1)).length = w.length - 1 := by rw [List.length_take]; omega
    generalize hxe : w.take (w.length - 1) = x at *
    refine AWp.block ?_
    refine AWp.weak (st' := ⟨mkF 49 [(1, .ptr 0 0), (3, .ptr 1 0), (10, .p (.sl (ws.map .str))), (11, .p (.int .i64 ws.length)), (12, .p (.int .i64 i)), (21, .fn 100 [.ptr 3 0])], [.box [.p (.int .i64 q), .p (.sl (ws.map .str))], .box [.own 2 (missL q ws i ++ missW q ws w 0).length], .row 9 1 ((missL q ws i ++ missW q ws w 0).map .str) (rkOf (missL q ws i ++ missW q ws w 0)), .box [.p (.str x)]]⟩) (by simp [go_sem, weakH_self, missW]) ?_
    rw [show (#[22] : Array Nat) = [22].toArray from rfl]
    refine AWp.rangeFunc (ks := [2]) rfl (c116m (q := q) (ws := ws) (out := fun n => missL q ws i ++ missW q ws w n) (w := x) (by omega) ?_) (by simp) (by simp) ?_
    · intro n hn hnx
      rw [htk n (by omega)]
      have hpl : (w.take n).length ≤ 32 := by rw [List.length_take]; omega
      have hmw := missW_len q ws w n
      have hmw2 : q * n ≤ 16 * 32 := Nat.mul_le_mul (by omega) (by omega)
      have hnext : missW q ws w (n + 1) = missW q ws w n ++ missP ws (w.take n) q := missW_succ q ws w n
      rw [hnext]
      generalize hpe : w.take n = p at *
      generalize hoe : missL q ws i ++ missW q ws w n = out at *
      have hol : out.length ≤ 512 * 64 + 512 := by rw [← hoe, List.length_append]; omega
      rw [← List.append_assoc, hoe]
      unfold miH
      refine YC.of_body (Γ := Γ) rfl rfl (by simp) ?_
      intro rr
      refine AWp.of_awpD [] hΓ hmix (by kernel_rfl) ?_
      simp -implicitDefEqProofs only [setP, go_sem]
      unfold BeginE
      refine ⟨rfl, ?_⟩
      simp -implicitDefEqProofs only [go_sem]
      refine AWp.of_awpD [] hΓ hmix (by kernel_rfl) ?_
      simp -implicitDefEqProofs only [go_sem]
      refine AWp.name ?_
      intro h0 hh0
      obtain ⟨rec, hh⟩ : ∃ rec, h0 = [.box [.p (.int .i64 q), .p (.sl (ws.map .str))], .box [.own 2 out.length], .row 9 1 (out.map .str) (rkOf out), .box [.p (.str x)], rec] := ⟨_, hh0⟩
      rw [hh] at hh0 ⊢
      simp only [List.cons.injEq, true_and, and_true] at hh0
      refine AWp.loopI (fun a : Nat => ⟨mkF 49 [(1, .ptr 0 0), (3, .ptr 1 0), (6, .p (.str p)), (24, .p (.int .i64 q)), (25, .p (.int .i64 a))], [.box [.p (.int .i64 q), .p (.sl (ws.map .str))], .box [.own 2 (out ++ missP ws p a).length], .row 9 1 ((out ++ missP ws p a).map .str) (rkOf (out ++ missP ws p a)), .box [.p (.str x)], rec]⟩)
        (fun a => a ≤ q) (fun a => q - a) 0 (by simp [go_sem, weakH_self, missP]) (by omega) ?_
      intro a ha
      refine AWp.of_awpD [] hΓ hmix (by kernel_rfl) ?_
      have hPl := missP_len ws p a
      by_cases hlta : a < q
      · have hlta' : (a : Int) < (q : Int) := by omega
        have h1 : ((a : Int) + 1).toNat - a = 1 := by omega
        have h16 : a < 16 := by omega
        have e74 := cm74 ws (p ++ [letA a]) (by omega)
        have hsuc := missP_succ ws p a
        have hkr : AObj.kill 2 rec = rec := by rw [hh0]; simp [AObj.kill, AV.kill, AV.kill.killL]
        have hs1 : sizeOK [PV.str (p ++ [letA a])] 1 := by simp [sizeOK, PV.cells]
        have ho1 : oneOK [PV.str (p ++ [letA a])] := by simp [oneOK, PV.cells, PV.isAgg]
        simp -implicitDefEqProofs only [hlta, Int.toNat_natCast, h1, sub_letters h16, go_sem]
        refine ⟨by simp only [InR]; omega, ⟨by omega, by omega⟩, by omega, callK_fn e74 (.pures rfl) ?_⟩
        cases hb : ws.any fun x => (p ++ [letA a]).isPrefixOf x
        · have hm : missA ws p a = [p ++ [letA a]] := by unfold missA begB; rw [hb]; rfl
          rw [hm] at hsuc
          have hkb : ∀ l, AObj.kill 2 (.box l) = .box (l.map (AV.kill 2)) := fun _ => rfl
          have hko : ∀ E s xs k, AObj.kill 2 (.row E s xs k) = .row E s xs k := fun _ _ _ _ => rfl
          simp -implicitDefEqProofs only [hkr, hkb, hko, AV.kill, AV.kill.killL, go_sem]
          refine ⟨⟨hs1, by omega⟩, ⟨hs1, ho1⟩, ⟨by unfold rkOf; split <;> simp, .inr (by simp), by rw [List.length_append]; omega, by rw [List.length_append]; omega⟩, by simp only [InR]; omega, a + 1, ?_, by omega, by omega⟩
          rw [hsuc, ← List.append_assoc, rkOf_snoc]
          simp
          exact ⟨by omega, .inr (.inl hkr.symm)⟩
        · have hm : missA ws p a = [] := by unfold missA begB; rw [hb]; rfl
          rw [hm, List.append_nil] at hsuc
          simp -implicitDefEqProofs only [go_sem]
          exact ⟨by simp only [InR]; omega, a + 1, by rw [hsuc]; simp [weakH_self], by omega, by omega⟩
      · have haq : a = q := by omega
        subst haq
        subst hh0
        simp -implicitDefEqProofs only [Int.lt_irrefl, Nat.lt_irrefl, go_sem]
        unfold RoundE
        simp -implicitDefEqProofs only [go_sem]
        exact ⟨5, Nat.le_refl _, .inl rfl, rfl⟩
    · rintro v h' rfl
      unfold miH RangeK
      simp -implicitDefEqProofs only [killAll, List.foldl, go_sem]
      refine AWp.of_awpD [] hΓ hmix (by kernel_rfl) ?_
      simp -implicitDefEqProofs only [List.set_cons_zero, List.set_cons_succ, go_sem]
      have hxl : x.length + 1 = w.length := by omega
      rw [hxl]
      exact ⟨by simp only [InR]; omega, i + 1, ⟨by simp, by rw [hs0], .inl ⟨by rw [hs0], by rw [hs0]⟩⟩, hlt, by omega⟩
  have hiw : i = ws.length := by omega
  subst hiw
  refine AWp.of_awpD [] hΓ hmix (by kernel_rfl) ?_
  simp -implicitDefEqProofs only [Int.lt_irrefl, Nat.lt_irrefl, go_sem]
  have hlL := missL_len (q := q) (ws := ws) (by omega) (fun x hx => (hws x hx).2.1) ws.length (Nat.le_refl _)
  unfold missing
  generalize missL q ws ws.length = out at *
  refine AWp.of_awpD [] hΓ hmix (by kernel_rfl) ?_
  simp -implicitDefEqProofs only [go_sem]
  by_cases h0 : out = []
  · subst h0
    refine callK_ac (c83n (b := 2)) (by simp) ?_
    rintro v h' ⟨rfl, rfl⟩
    simp -implicitDefEqProofs only [killAll, List.foldl, go_sem]
    refine callK_ac (c107n (b := 2)) (by simp) ?_
    rintro v h' ⟨rfl, rfl⟩
    simp -implicitDefEqProofs only [killAll, List.foldl, made_nil, go_sem]
  · have hrk : rkOf out = .own := by unfold rkOf; rw [if_neg h0]
    rw [hrk]
    refine callK_ac (cm106 out rfl (by omega)) (by simp) ?_
    rintro v h' ⟨rfl, rfl⟩
    have hsl := sortW_length out
    simp -implicitDefEqProofs only [killAll, List.foldl, List.set_cons_zero, List.set_cons_succ, go_sem]
    rw [← hsl]
    refine callK_ac (c107 (sortW out) rfl (by omega)) (by simp) ?_
    rintro v h' ⟨rfl, rfl⟩
    simp -implicitDefEqProofs only [killAll, List.foldl, List.set_cons_zero, List.set_cons_succ, made, go_sem]
end Go.Proofs.YtaphjgjhpmmkmaaGreat
end

section
namespace Go.Proofs.YtaphjgjhpmmkmaaGreat
open Go Go.AM
set_option maxRecDepth 100000
set_option maxHeartbeats 4000000
set_option linter.unusedSimpArgs false

def prefB (ws : List (List UInt8)) : Bool := aloneB (fun w x => x.isPrefixOf w) ws
theorem alone_iff {pr : List UInt8 → List UInt8 → Bool} {ws : List (List UInt8)} (hd : ws.Nodup) : aloneB pr ws = true ↔ ∀ x ∈ ws, ∀ y ∈ ws, pr x y = true → x = y := by
  have get : ∀ i (h : i < ws.length), ws.getD i [] = ws[i] := fun i h => by rw [List.getD_eq_getElem?_getD, List.getElem?_eq_getElem h, Option.getD_some]
  unfold aloneB aloneN aloneTo
  simp only [List.all_eq_true, List.mem_range, Bool.or_eq_true, decide_eq_true_eq, Bool.not_eq_true']
  constructor
  · intro h x hx y hy hp
    obtain ⟨i, hi, rfl⟩ := List.getElem_of_mem hx
    obtain ⟨k, hk, rfl⟩ := List.getElem_of_mem hy
    rcases h i hi k hk with e | e
    · subst e; rfl
    · rw [get i hi, get k hk, hp] at e; cases e
  · intro h i hi k hk
    by_cases e : i = k
    · exact .inl e
    · right
      rw [get i hi, get k hk]
      cases hp : pr ws[i] ws[k] with
      | false => rfl
      | true =>
        have := h _ (List.getElem_mem hi) _ (List.getElem_mem hk) hp
        have hp := List.pairwise_iff_getElem.1 (show ws.Pairwise (· ≠ ·) from hd)
        rcases Nat.lt_trichotomy i k with hik | hik | hik
        · exact absurd this (hp i k hi hk hik)
        · exact absurd hik e
        · exact absurd this.symm (hp k i hk hi hik)
theorem strict_nodup {ws : List (List UInt8)} (h : ws.Pairwise ltW) : ws.Nodup := List.Pairwise.imp (fun {a b} (hab : ltW a b) (e : a = b) => ltW_irrefl b (by rw [e] at hab; exact hab)) h
theorem Valid.strict {q : Int} {ws : List (List UInt8)} (hv : Valid q ws) : ws.Pairwise ltW := List.pairwise_iff_getElem.2 fun i j hi hj hij => by
  have := hv.lt i j hij hj
  rwa [List.getD_eq_getElem?_getD, List.getD_eq_getElem?_getD, List.getElem?_eq_getElem hi, List.getElem?_eq_getElem hj, Option.getD_some, Option.getD_some] at this
end Go.Proofs.YtaphjgjhpmmkmaaGreat
end

section
namespace Go.Proofs.YtaphjgjhpmmkmaaGreat
open Go Go.AM
set_option maxRecDepth 100000
set_option maxHeartbeats 4000000
set_option linter.unusedSimpArgs false

def missV (q : Int) (ws : List (List UInt8)) : List (List UInt8) := if chE q ws = 0 then missing q.toNat ws else []

theorem chE_valid {q : Int} {ws : List (List UInt8)} (hc : chE q ws = 0) : Valid q ws ∧ prefB ws = true := by
  have hv' : codeCheck q ws = 0 := by
    unfold chE at hc
    by_cases h : codeCheck q ws = 0
    · exact h
    · rw [if_neg h] at hc; omega
  refine ⟨valid_of hv', ?_⟩
  unfold chE at hc
  rw [if_pos hv'] at hc
  by_cases h : preP ws = true
  · exact h
  · rw [if_neg h] at hc; omega

theorem cm18 (q : Int) (ws : List (List UInt8)) : PFn Tryz.prog 8 [codeV q ws] [.sl ((missV q ws).map .str), .int .i64 (chE q ws)] := by
  have e61 := cm61 q ws
  refine PFn.of_body hΓ Tryz.func8 (by kernel_rfl) rfl (AWp.of_awpD [] hΓ hmix (by kernel_rfl) ?_)
  simp -implicitDefEqProofs only [Tryz.ntmps8, Tryz.results8, Nat.reduceAdd, Nat.reduceSub, codeV, go_sem]
  unfold codeV at e61
  refine callK_fn e61 (.still rfl) ?_
  unfold missV
  by_cases hc : chE q ws = 0
  · obtain ⟨hv, _⟩ := chE_valid hc
    have hq : ((q.toNat : Nat) : Int) = q := by have := hv.q2; omega
    have e62 := cm62 q.toNat ws (by rw [hq]; exact hv)
    rw [hq] at e62
    unfold codeV at e62
    rw [hc]
    simp -implicitDefEqProofs only [go_sem]
    refine callK_fn e62 (.still rfl) ?_
    simp -implicitDefEqProofs only [go_sem]
  · simp -implicitDefEqProofs only [hc, List.map_nil, go_sem]

end Go.Proofs.YtaphjgjhpmmkmaaGreat
end

section
namespace Go.Proofs.YtaphjgjhpmmkmaaGreat
open Go Go.AM Go.RowKit
set_option maxRecDepth 100000
set_option linter.unusedSimpArgs false

theorem c61z {h : List AObj} : AC Tryz.prog 38 [.full [], .p (.int .i64 (0 : Nat))] h [] (fun v h' => v = .full [] ∧ h' = h) := by
  refine ⟨entersF_of Tryz.func38 (by kernel_rfl) rfl, fun X I μ ob w cargs R hlen hargs _ => ?_⟩
  obtain ⟨a0, b0, rfl⟩ : ∃ a b, cargs = [a, b] := by
    match cargs, hlen with
    | [a, b], _ => exact ⟨a, b, rfl⟩
  have g0 := hargs 0 (by simp)
  have g1 := hargs 1 (by simp)
  simp only [List.getD_cons_zero, List.getD_cons_succ] at g0 g1
  obtain ⟨a, rfl, hp⟩ : ∃ a, a0 = .slice a 0 0 ∧ PR I w (.sl []) (.slice a 0 0) := by
    cases g0 with
    | full l a hp => exact ⟨a, rfl, hp⟩
  rw [g1.int_inv]
  have hc := Any8.slices_Grow_room (ρ := Tryz.growS_ren) Tryz.growS a 0 0 0 w (by omega) (by omega) (by omega) (by omega)
  refine Calls.mono (P := Tryz.prog) hc ?_
  rintro e w' ⟨rfl, rfl⟩
  exact ⟨_, .full [], h, I, μ, ob, rfl, R, .full [] a hp, fun _ h => h, fun _ _ _ => rfl, Nat.le_refl _, fun g hg => .inl hg, fun b g hb => .inl ⟨b, hb⟩, fun _ _ _ => rfl, rfl, rfl⟩

theorem c29z {h : List AObj} (hK : h.map (AObj.kill h.length) = h) : AC Tryz.prog 12 [.p (.sl (wssV [[], []]))] h [] (fun v h' => v = .own h.length 0 ∧ h' = h ++ [.row 9 1 [] .lax]) := by
  refine AC.of_bodyE hΓ Tryz.func12 (by kernel_rfl) rfl (AWp.mono (Q := fun e st => AM.Ends e ∧ st.tmps.getD 2 .junk = .own h.length 0 ∧ st.h = h ++ [.row 9 1 [] .lax]) ?_ ?_)
  rotate_left
  · rintro e ⟨tm, h'⟩ ⟨he, h1, h2⟩
    simp only at h1 h2
    subst h2
    refine ⟨he, _, Less.refl _, ?_⟩
    unfold DoneE
    simp +contextual -implicitDefEqProofs only [Tryz.results12, h1, go_sem]
    exact ⟨h.length + 1, by omega, .inl (by simp), List.take_of_length_le (by simp)⟩
  have hw : wssV [[], []] = [.sl [], .sl []] := rfl
  rw [hw]
  refine AWp.of_awpD [] hΓ hmix (by kernel_rfl) ?_
  simp -implicitDefEqProofs only [Tryz.ntmps12, Nat.reduceAdd, Nat.reduceSub, go_sem]
  refine AWp.loopI (fun k : Nat => ⟨mkF 36 [(0, .p (.sl [.sl [], .sl []])), (2, .full []), (3, .p (.int .i64 (0 : Nat))), (9, .p (.sl [.sl [], .sl []])), (10, .p (.int .i64 2)), (11, .p (.int .i64 k))], h⟩)
    (fun k => k ≤ 2) (fun k => 2 - k) 0 (by simp [go_sem, weakH_self]) (by omega) ?_
  intro k hk
  refine AWp.of_awpD [] hΓ hmix (by kernel_rfl) ?_
  by_cases hlt : k < 2
  · have hlt' : (k : Int) < 2 := by omega
    have hg : ([PV.sl [], PV.sl []] : List PV).getD k default = .sl [] := by
      match k, hlt with
      | 0, _ => rfl
      | 1, _ => rfl
    have h6 : ¬ ((0 : Nat) : Int) + ((0 : Nat) : Int) < 0 := by omega
    simp -implicitDefEqProofs only [hlt', hg, Int.toNat_natCast, h6, ↓reduceIte, go_sem]
    exact ⟨by omega, by simp only [InR]; omega, by simp only [InR]; omega, k + 1, ⟨⟨by omega, by omega⟩, weakH_self _⟩, hlt, by omega⟩
  · have hlt' : ¬ (k : Int) < 2 := by omega
    simp -implicitDefEqProofs only [hlt', go_sem]
    refine callK_ac c61z (by simp) ?_
    rintro v h' ⟨rfl, rfl⟩
    have gL : ∀ o : AObj, (h' ++ [o])[h'.length]? = some o := fun o => by simp
    have sL : ∀ o o' : AObj, (h' ++ [o]).set h'.length o' = h' ++ [o'] := fun o o' => by simp
    simp -implicitDefEqProofs only [killAll, List.foldl, go_sem]
    refine AWp.adopt (l := []) 6 9 1 (by rfl) (by simp) ?_
    simp -implicitDefEqProofs only [go_sem]
    refine AWp.loopI (fun j : Nat => ⟨mkF 36 [(0, .p (.sl [.sl [], .sl []])), (6, .own h'.length 0), (25, .p (.sl [.sl [], .sl []])), (26, .p (.int .i64 2)), (27, .p (.int .i64 j))], h' ++ [.row 9 1 [] .lax]⟩)
      (fun j => j ≤ 2) (fun j => 2 - j) 0 (by simp [go_sem, weakH_self]) (by omega) ?_
    intro j hj
    refine AWp.of_awpD [] hΓ hmix (by kernel_rfl) ?_
    by_cases hlt2 : j < 2
    · have hlt2' : (j : Int) < 2 := by omega
      have hg : ([PV.sl [], PV.sl []] : List PV).getD j default = .sl [] := by
        match j, hlt2 with
        | 0, _ => rfl
        | 1, _ => rfl
      simp -implicitDefEqProofs only [hlt2', hg, Int.toNat_natCast, gL, sL, hK, List.append_nil, go_sem]
      refine ⟨by omega, ⟨by simp [sizeOK], by simp [oneOK]⟩, ⟨by omega, by omega⟩, by simp only [InR]; omega, j + 1, ⟨by omega, ?_⟩, by omega, by omega⟩
      simp only [List.map_append, hK, List.map_cons, List.map_nil, sL, List.isEmpty_nil, ↓reduceIte]
      exact weakH_self _
    · have hlt2' : ¬ (j : Int) < 2 := by omega
      simp -implicitDefEqProofs only [hlt2', go_sem]

theorem c29b {h : List AObj} (hK : h.map (AObj.kill h.length) = h) (A B : List (List UInt8)) (hn : (A ++ B).length ≤ 1000000) :
    AC Tryz.prog 12 [.p (.sl (wssV [A, B]))] h [] (fun v h' => ∃ rk, rk ≠ .raw ∧ v = .own h.length (A ++ B).length ∧ h' = h ++ [.row 9 1 ((A ++ B).map .str) rk]) := by
  have hf : [A, B].flatten = A ++ B := by simp
  by_cases h0 : 0 < (A ++ B).length
  · have hc := c29 hK [A, B] (by rw [hf]; exact h0) (by rw [hf]; exact hn) (by simp)
    rw [hf] at hc
    exact hc.monoR fun v h' ⟨h1, h2⟩ => ⟨.own, by simp, h1, h2⟩
  · have hA : A = [] := List.length_eq_zero_iff.1 (by rw [List.length_append] at h0; omega)
    have hB : B = [] := List.length_eq_zero_iff.1 (by rw [List.length_append] at h0; omega)
    subst hA hB
    exact (c29z hK).monoR fun v h' ⟨h1, h2⟩ => ⟨.lax, by simp, h1, h2⟩

end Go.Proofs.YtaphjgjhpmmkmaaGreat
end

section
namespace Go.Proofs.YtaphjgjhpmmkmaaGreat
open Go Go.AM
set_option maxRecDepth 100000
set_option maxHeartbeats 4000000
set_option linter.unusedSimpArgs false

theorem c66p (A B : List (List UInt8)) (hn : (A ++ B).length ≤ 1000000) : PFn Tryz.prog 12 [.sl [.sl (A.map .str), .sl (B.map .str)]] [.sl ((A ++ B).map .str)] := by
  refine .of_row (E := 9) (s := 1) ((c29b (h := []) rfl A B hn).monoR ?_)
  rintro v h' ⟨rk, hrk, rfl, rfl⟩
  exact ⟨0, rk, by rw [List.length_map]; rfl, rfl, hrk⟩

def makeV (q : Int) (l : List (List UInt8)) : PV := if codeCheck q (made l) = 0 then codeV q (made l) else codeV 0 []
theorem makeV_code (q : Int) (l : List (List UInt8)) : ∃ p us, makeV q l = codeV p us ∧ us.length ≤ l.length := by
  unfold makeV
  split
  · exact ⟨_, _, rfl, made_le l⟩
  · exact ⟨0, [], rfl, by simp⟩

def compE (q : Int) (ws : List (List UInt8)) : Int := if chE q ws ≠ 0 then chE q ws else codeCheck q (made (ws ++ missV q ws))
def compV (q : Int) (ws : List (List UInt8)) : PV := if chE q ws ≠ 0 then codeV 0 [] else makeV q (ws ++ missV q ws)

theorem missV_len {q : Int} {ws : List (List UInt8)} (hv : Valid q ws) : (missV q ws).length ≤ 32768 := by
  unfold missV
  split
  · have h1 := made_le (missL q.toNat ws ws.length)
    have h2 := missL_len (q := q.toNat) (ws := ws) (by have := hv.q16; omega) (fun x hx => (hv.words x hx).2.1) ws.length (Nat.le_refl _)
    have h3 := hv.len
    unfold missing
    omega
  · simp

theorem cm20 (q : Int) (ws : List (List UInt8)) : PFn Tryz.prog 17 [codeV q ws] [compV q ws, .int .i64 (compE q ws)] := by
  have e61 := cm61 q ws
  unfold compV compE
  refine PFn.of_body hΓ Tryz.func17 (by kernel_rfl) rfl (AWp.of_awpD [(4, 11)] hΓ hmix (by kernel_rfl) ?_)
  simp -implicitDefEqProofs only [Tryz.ntmps17, Tryz.results17, Nat.reduceAdd, Nat.reduceSub, codeV, go_sem]
  unfold codeV at e61
  refine callK_fn e61 (.still rfl) ?_
  by_cases hc : chE q ws = 0
  · obtain ⟨hv, _⟩ := chE_valid hc
    have hl := missV_len hv
    have hlen := hv.len
    have hq : ((q.toNat : Nat) : Int) = q := by have := hv.q2; omega
    have e62 := cm62 q.toNat ws (by rw [hq]; exact hv)
    rw [hq, show missing q.toNat ws = missV q ws by unfold missV; rw [if_pos hc]] at e62
    have e66 := c66p ws (missV q ws) (by rw [List.length_append]; omega)
    have e71 := t71 q (ws ++ missV q ws) (by rw [List.length_append]; omega)
    rw [← makeV] at e71
    obtain ⟨p, us, hpu, _⟩ := makeV_code q (ws ++ missV q ws)
    rw [hpu] at e71
    unfold codeV at e62 e71
    rw [hc, if_neg (by simp), if_neg (by simp), hpu]
    simp -implicitDefEqProofs only [go_sem]
    refine callVPK_fn e62 (.still rfl) ?_
    simp -implicitDefEqProofs only [go_sem]
    refine ⟨⟨by simp [sizeOK, PV.cells], by omega⟩, callVPK_fn e66 (.still rfl) ?_⟩
    simp -implicitDefEqProofs only [go_sem]
    refine callVPK_fn e71 (.still rfl) ?_
    simp -implicitDefEqProofs only [codeV, go_sem]
  · rw [if_pos hc, if_pos hc]
    simp -implicitDefEqProofs only [hc, codeV, List.map_nil, go_sem]

end Go.Proofs.YtaphjgjhpmmkmaaGreat
end

section
namespace Go.Proofs.YtaphjgjhpmmkmaaGreat
open Go Go.AM
set_option maxRecDepth 1000000
set_option linter.unusedSimpArgs false

def kn : FuncId → List PV → Option AV := fun f args => match f, args with
  | 9, [.agg [.int .i64 2, .sl [.str [49], .str [48, 48], .str [48, 49]]]] => some (.tup [.p (.agg [.bool false, .str [1], .bool false, .str [1]]), .p (.int .i64 0)])
  | 12, [.sl [.sl [.str [49], .str [48, 48]], .sl [.str [48, 49]]]] => some (.p (.sl [.str [49], .str [48, 48], .str [48, 49]]))
  | 108, [.int .i64 1] => some (.p (.str [1]))
  | _, _ => none
def axA : FuncId → List AV → Option AV := fun f args => match f with
  | 9 => (AV.purL [] args).bind (kn 9)
  | 12 => (AV.purL [] args).bind (kn 12)
  | 108 => (AV.purL [] args).bind (kn 108)
  | f => axT f args
def ptA : Plans := fun id n => match id, n with
  | 6, 18 => some (.q 0 (.q 1 (.q 2 (.q 3 (.q 4 (.q 5 (.q 6 (.q 7 (.q 8 (.q 9 (.q 10 (.q 11 (.q 12 (.q 13 (.q 14 (.e 15 (.s 2 (.s 3 (.s 4 (.q 16 (.e 17 .fin .nil))))) .nil))))))))))))))))
  | 17, 5 => some (.q 0 (.q 1 (.e 2 (.s 1 (.e 3 (.q 4 .fin) .nil)) .nil)))
  | _, _ => none

theorem magB1 : magB 1 = [1] := by decide +kernel
theorem ratV_one : Kn.ratV 1 1 = .agg [.bool false, .str [1], .bool false, .str [1]] := by
  unfold Kn.ratV; rw [show Nat.gcd 1 1 = 1 by decide, Nat.div_one, magB1]
theorem of_ex : PFn Tryz.prog 9 [.agg [.int .i64 2, .sl [.str [49], .str [48, 48], .str [48, 49]]]] [.agg [.bool false, .str [1], .bool false, .str [1]], .int .i64 0] := by
  have e := cm28 2 [[49], [48, 48], [48, 49]] (by decide)
  have h : Kn.ratV (Kn.krS 2 [1, 2, 2]) (2 ^ 32) = .agg [.bool false, .str [1], .bool false, .str [1]] := by
    rw [← ratV_one]
    exact (Kn.low_eq (by decide) (by decide)).2 (by decide)
  rw [show ((2 : Int).toNat) = 2 from rfl, show ([[49], [48, 48], [48, 49]] : List (List UInt8)).map List.length = [1, 2, 2] from rfl, h] at e
  exact e
theorem cat_ex : PFn Tryz.prog 12 [.sl [.sl [.str [49], .str [48, 48]], .sl [.str [48, 49]]]] [.sl [.str [49], .str [48, 48], .str [48, 49]]] := c66p [[49], [48, 48]] [[48, 49]] (by decide)
theorem u108 (n : Nat) (hn : n < 9223372036854775808) : PFn Tryz.prog 108 [.int .i64 n] [.str (magB n)] := by
  refine ⟨entersF_of Tryz.func108 (by kernel_rfl) rfl, fun I w cargs himm hlen hargs => ?_⟩
  obtain ⟨a, rfl⟩ : ∃ a, cargs = [a] := by
    match cargs, hlen with
    | [a], _ => exact ⟨a, rfl⟩
  have h0 := hargs 0 (by simp)
  simp only [List.getD_cons_zero] at h0
  rw [h0.int_inv]
  refine Calls.mono (P := Tryz.prog) (m108 n hn w) ?_
  rintro e w' ⟨rfl, hB⟩
  exact ⟨_, I, rfl, grown_of_below hB, fun _ h => h, fun g h => .inl h, .p _ _ (.str ⟨(magB n).toArray⟩)⟩
theorem mag_ex : PFn Tryz.prog 108 [.int .i64 1] [.str [1]] := by
  have e := u108 1 (by decide)
  rwa [magB1] at e
theorem kn_ok : ∀ f p v, kn f p = some v → ∃ vs, PFn Tryz.prog f p vs ∧ v = packAV (vs.map .p) := by
  intro f p v h
  unfold kn at h
  split at h
  · injection h with h; exact ⟨_, of_ex, h.symm⟩
  · injection h with h; exact ⟨_, cat_ex, h.symm⟩
  · injection h with h; exact ⟨_, mag_ex, h.symm⟩
  · cases h
theorem axA_ok : ∀ f args v, axA f args = some v → AX Tryz.prog f args v ∨ ∀ h, AC Tryz.prog f args h [] (fun u h' => u = v ∧ h' = h) := by
  have go : ∀ f args v, (AV.purL [] args).bind (kn f) = some v → ∀ h, AC Tryz.prog f args h [] (fun u h' => u = v ∧ h' = h) := by
    intro f args v h
    obtain ⟨p, h1, h2⟩ := Option.bind_eq_some_iff.1 h
    obtain ⟨vs, h3, h4⟩ := kn_ok f p v h2
    subst h4
    exact fun h => AC.of_fn h3 (.inr h1)
  intro f args v h
  unfold axA at h
  split at h
  · exact .inr (go _ _ _ h)
  · exact .inr (go _ _ _ h)
  · exact .inr (go _ _ _ h)
  · exact .inl (axT_ok _ _ _ h)

theorem hEA : ECOK ⟨Tryz.prog, Γ, axA⟩ := ⟨hΓ, hmix, names_ok (by kernel_rfl), axA_ok⟩
def oneR : PV := .agg [.bool false, .str [1], .bool false, .str [1]]
theorem oneE : (runEP ⟨Tryz.prog, Γ, axA⟩ ptA 2000 10 []).bind AV.pvT = some (.p oneR) := by kernel_rfl
theorem one_ok : PFn Tryz.prog 10 [] [oneR] := by
  obtain ⟨v, h1, h2⟩ := Option.bind_eq_some_iff.1 oneE
  exact .of_acP ((runEP_ok hEA h1).monoR fun u h' ⟨e1, e2⟩ => ⟨by rw [e1]; exact h2, e2⟩)
theorem comE : (runEP ⟨Tryz.prog, Γ, axA⟩ ptA 2000 17 [.p (.agg [.int .i64 2, .sl [.str [49], .str [48, 48]]])]).bind AV.pvT = some (.tup [.p (.agg [.int .i64 2, .sl [.str [49], .str [48, 48], .str [48, 49]]]), .p (.int .i64 0)]) := by kernel_rfl
theorem com_ok : PFn Tryz.prog 17 [.agg [.int .i64 2, .sl [.str [49], .str [48, 48]]]] [.agg [.int .i64 2, .sl [.str [49], .str [48, 48], .str [48, 49]]], .int .i64 0] := by
  obtain ⟨v, h1, h2⟩ := Option.bind_eq_some_iff.1 comE
  exact .of_acP ((runEP_ok hEA h1).monoR fun u h' ⟨e1, e2⟩ => ⟨by rw [e1]; exact h2, e2⟩)
theorem misE : (runEP ⟨Tryz.prog, Γ, axA⟩ ptA 2000 8 [.p (.agg [.int .i64 2, .sl [.str [49], .str [48, 48]]])]).bind AV.pvT = some (.tup [.p (.sl [.str [48, 49]]), .p (.int .i64 0)]) := by kernel_rfl
theorem mis_ok : PFn Tryz.prog 8 [.agg [.int .i64 2, .sl [.str [49], .str [48, 48]]]] [.sl [.str [48, 49]], .int .i64 0] := by
  obtain ⟨v, h1, h2⟩ := Option.bind_eq_some_iff.1 misE
  exact .of_acP ((runEP_ok hEA h1).monoR fun u h' ⟨e1, e2⟩ => ⟨by rw [e1]; exact h2, e2⟩)
theorem eqE : (runEP ⟨Tryz.prog, Γ, axA⟩ ptA 2000 16 [.p (.sl [.str [48, 49]]), .p (.sl [.str [48, 49]])]).bind AV.pvT = some (.p (.bool true)) := by kernel_rfl
theorem eq_ok : PFn Tryz.prog 16 [.sl [.str [48, 49]], .sl [.str [48, 49]]] [.bool true] := by
  obtain ⟨v, h1, h2⟩ := Option.bind_eq_some_iff.1 eqE
  exact .of_acP ((runEP_ok hEA h1).monoR fun u h' ⟨e1, e2⟩ => ⟨by rw [e1]; exact h2, e2⟩)
theorem awake_ok : PFn Tryz.prog 7 [] [.bool true] := by
  have e1 := com_ok
  have e2 := mis_ok
  have e3 := eq_ok
  have e4 := one_ok
  have e5 := of_ex
  unfold oneR at e4
  have s2 : sizeOK [PV.str [49], PV.str [48, 48]] 1 := by simp [sizeOK, PV.cells]
  refine PFn.of_body hΓ Tryz.func7 (by kernel_rfl) rfl (AWp.of_awpD [(5, 16)] hΓ hmix (by kernel_rfl) ?_)
  simp -implicitDefEqProofs only [Tryz.ntmps7, Tryz.results7, Nat.reduceAdd, Nat.reduceSub, go_sem]
  refine ⟨⟨by simp [sizeOK, PV.cells], by omega⟩, by omega, ?_⟩
  refine callK_fn e2 (.still rfl) ?_
  simp -implicitDefEqProofs only [go_sem]
  refine callK_fn e1 (.still rfl) ?_
  simp -implicitDefEqProofs only [go_sem]
  refine callK_fn e5 (.still rfl) ?_
  simp -implicitDefEqProofs only [ite_self, go_sem]
  refine ⟨⟨by simp [sizeOK, PV.cells], by omega⟩, ?_⟩
  refine callVPK_fn e3 (.still rfl) ?_
  simp -implicitDefEqProofs only [go_sem]
  refine callVPK_fn e4 (.pures rfl) ?_
  simp -implicitDefEqProofs only [go_sem]
  refine aggR rfl rfl ?_
  simp -implicitDefEqProofs only [decide_true, Bool.and_self, go_sem]
end Go.Proofs.YtaphjgjhpmmkmaaGreat
end

