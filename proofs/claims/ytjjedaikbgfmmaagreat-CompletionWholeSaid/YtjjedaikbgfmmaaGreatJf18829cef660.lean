/-
  completion.missing.
  completion.missing, walked.
  The reference's Sorted: words put in one by one.
  Prefix and Suffix of the reference, Suffix, Longest, Same, Make of the reference.
  Bifix, Symmetric; the law CompletionBifix.
  The reference's Prune.
  The reference's missing; Missing of both.
  Kraft's sum of a prefix code, plain: at most 1, and 1 exactly if nothing is missing.
  Completed prefix codes: plain.
  Complete, of both.
-/
import Derived.Test.YtjjedaikbgfmmaaGreatJc2b6781b6c49
import Derived.Test.YtjjedaikbgfmmaaGreatJ8df0f086fdec
import Derived.Test.YtjjedaikbgfmmaaGreatJf402667787f2

section
namespace Go.Proofs.YtjjedaikbgfmmaaGreat
open Go Go.AM Go.RowKit
set_option maxRecDepth 100000
set_option maxHeartbeats 4000000
set_option linter.unusedSimpArgs false

theorem km107 (a b : ByteArray) (w : World) : Calls Tryz.prog 107 #[.string a, .string b] w fun e w' => e = .returned (.int .i64 (cmpK a.data.toList b.data.toList)) ∧ ∃ q os, w' = Sort.grow (w.drewN q) os := by
  have hc1 := k103
  have hc2 := k104
  have hc3 := k102
  go_enter Tryz.func107, Tryz.ntmps107
  go_wp2_with (first | (go_at_call 56; refine (hc1 _ _ _).mono ?_; rintro e w' ⟨rfl, rfl⟩) | (go_at_call 148; refine (hc2 _ _ _).mono ?_; rintro e w' ⟨rfl, rfl⟩) | (go_at_call 147; refine (hc3 _ _ _ _ _ (newCells _ _ _ _ _ rfl) (newCells _ _ _ _ _ rfl)).mono ?_; rintro e w' ⟨rfl, rfl⟩))
  all_goals go_ret
  all_goals have e1 : ∀ x : ByteArray, x.data.toList.length = x.size := fun x => by simp
  · refine ⟨congrArg (fun n => Ending.returned (Value.int .i64 n)) ?_, 0, #[_], by rw [Sort.alloc_eq_grow]; rfl⟩
    have hs : a.size = b.size := by
      rcases Nat.lt_trichotomy a.size b.size with g | g | g
      · rw [if_pos g] at h; cases h
      · exact g
      · rw [if_neg (by omega), if_pos g] at h; cases h
    unfold cmpK
    simp only [e1, hs]
    rw [if_pos (by simp)]
  · refine ⟨congrArg (fun n => Ending.returned (Value.int .i64 n)) ?_, 0, #[_], by rw [Sort.alloc_eq_grow]; rfl⟩
    unfold cmpK
    simp only [e1]
    rw [if_pos (show (a.size : Int) < b.size by omega)]; rfl
  · refine ⟨congrArg (fun n => Ending.returned (Value.int .i64 n)) ?_, 0, #[_], by rw [Sort.alloc_eq_grow]; rfl⟩
    unfold cmpK
    simp only [e1]
    rw [if_neg (show ¬ (a.size : Int) < b.size by omega), if_pos (show (b.size : Int) < a.size by omega)]; rfl
theorem sort_calls107 (d : List (List UInt8)) (blk off cap : Nat) (w : World) (hH : Sort.Holds encW w blk off d.toArray) (hblk : blk < w.heap.size) (hsz : d.length < 4611686018427387904) :
    Calls Tryz.prog 106 #[.slice (some ⟨blk, off, none⟩) d.length cap, .func (.func 107) #[] #[]] w fun e w' => e = .returned (.tuple #[]) ∧ ∃ n os, w' = sortWorld encW w blk off n (sortW d).toArray os := by
  have eg : ∀ args w, (callFunc 107 args).run Tryz.prog w = .ok (.enter 107 args) w := entersF_of Tryz.func107 (by kernel_rfl) rfl
  have hcmp : CmpLays1 Tryz.prog 107 #[] encW cmpK blk off d.toArray.size w := fun m os dk _ x y => km107 ⟨x.toArray⟩ ⟨y.toArray⟩ _
  have h := Any.slices_SortFunc_total Tryz.sortS encW (fun _ => rfl) cmpK swoW 107 #[] blk off cap d.toArray w eg hcmp hH hblk (by simpa using hsz) (fun x y h1 h2 => ltW_total ((ltOf_false x y).1 h1) ((ltOf_false y x).1 h2))
  exact h
theorem cm106 {h : List AObj} {b : Nat} (l : List (List UInt8)) (hb : h[b]? = some (.row 9 1 (l.map .str) .own)) (hsz : l.length ≤ 1000000) :
    AC Tryz.prog 106 [.own b l.length, .fn 107 []] h [] (fun v h' => v = .tup [] ∧ h' = h.set b (.row 9 1 ((sortW l).map .str) .own)) := c83_of sort_calls107 l hb hsz

/-- The letter with a number. -/
def letA (a : Nat) : UInt8 := L16.getD a 0
/-- Whether a word of a list begins with x. -/
def begB (ws : List (List UInt8)) (x : List UInt8) : Bool := ws.any fun y => x.isPrefixOf y
def missA (ws : List (List UInt8)) (p : List UInt8) (a : Nat) : List (List UInt8) := if begB ws (p ++ [letA a]) = true then [] else [p ++ [letA a]]
def missP (ws : List (List UInt8)) (p : List UInt8) (k : Nat) : List (List UInt8) := (List.range k).flatMap (missA ws p)
def missW (q : Nat) (ws : List (List UInt8)) (w : List UInt8) (n : Nat) : List (List UInt8) := (List.range n).flatMap fun m => missP ws (w.take m) q
def missL (q : Nat) (ws : List (List UInt8)) (i : Nat) : List (List UInt8) := (List.range i).flatMap fun j => missW q ws (ws.getD j []) (ws.getD j []).length
def missing (q : Nat) (ws : List (List UInt8)) : List (List UInt8) := made (missL q ws ws.length)

theorem missP_succ (ws : List (List UInt8)) (p : List UInt8) (k : Nat) : missP ws p (k + 1) = missP ws p k ++ missA ws p k := by unfold missP; rw [List.range_succ, List.flatMap_append]; simp
theorem missW_succ (q : Nat) (ws : List (List UInt8)) (w : List UInt8) (n : Nat) : missW q ws w (n + 1) = missW q ws w n ++ missP ws (w.take n) q := by unfold missW; rw [List.range_succ, List.flatMap_append]; simp
theorem missL_succ {q : Nat} {ws : List (List UInt8)} {i : Nat} (hi : i < ws.length) : missL q ws (i + 1) = missL q ws i ++ missW q ws ws[i] ws[i].length := by
  have e : ws.getD i [] = ws[i] := by rw [List.getD_eq_getElem?_getD, List.getElem?_eq_getElem hi, Option.getD_some]
  unfold missL; rw [List.range_succ, List.flatMap_append, List.flatMap_singleton, e]
theorem missP_len (ws : List (List UInt8)) (p : List UInt8) : ∀ k, (missP ws p k).length ≤ k
  | 0 => by simp [missP]
  | k + 1 => by
    have ih := missP_len ws p k
    rw [missP_succ, List.length_append]
    unfold missA
    split <;> simp only [List.length_nil, List.length_cons] <;> omega
theorem missW_len (q : Nat) (ws : List (List UInt8)) (w : List UInt8) : ∀ n, (missW q ws w n).length ≤ q * n
  | 0 => by simp [missW]
  | n + 1 => by
    have ih := missW_len q ws w n
    have h2 := missP_len ws (w.take n) q
    rw [missW_succ, List.length_append, Nat.mul_succ]
    omega
theorem missL_len {q : Nat} {ws : List (List UInt8)} (hq : q ≤ 16) (hw : ∀ x ∈ ws, x.length ≤ 32) : ∀ i, i ≤ ws.length → (missL q ws i).length ≤ 512 * i
  | 0, _ => by simp [missL]
  | i + 1, hi => by
    have ih := missL_len hq hw i (by omega)
    have h2 := missW_len q ws ws[i] ws[i].length
    have h3 := hw ws[i] (List.getElem_mem _)
    rw [missL_succ hi, List.length_append]
    have : q * ws[i].length ≤ 16 * 32 := Nat.mul_le_mul hq h3
    omega

/-- A row that grew from nothing. -/
def rkOf (l : List (List UInt8)) : RK := if l = [] then .lax else .own
theorem rkOf_snoc (l : List (List UInt8)) (x : List UInt8) : rkOf (l ++ [x]) = .own := by unfold rkOf; rw [if_neg (by simp)]
end Go.Proofs.YtjjedaikbgfmmaaGreat
end

section
namespace Go.Proofs.YtjjedaikbgfmmaaGreat
open Go Go.AM Go.RowKit
set_option maxRecDepth 100000
set_option maxHeartbeats 4000000
set_option linter.unusedSimpArgs false

/-- The heap ahead of a loop over a function: a code, the list in its box, a word, the loop's record. -/
def miH (q : Nat) (ws : List (List UInt8)) (out : List (List UInt8)) (w : List UInt8) (rec : AObj) : List AObj :=
  [.box [.p (.int .i64 q), .p (.sl (ws.map .str))], .box [.own 2 out.length], .row 9 1 (out.map .str) (rkOf out), .box [.p (.str w)], rec]

theorem sub_letters {a : Nat} (ha : a < 16) : List.take 1 (List.drop a [48, 49, 50, 51, 52, 53, 54, 55, 56, 57, 97, 98, 99, 100, 101, 102]) = [letA a] := by
  have : ∀ a, a < 16 → List.take 1 (List.drop a ([48, 49, 50, 51, 52, 53, 54, 55, 56, 57, 97, 98, 99, 100, 101, 102] : List UInt8)) = [letA a] := by decide
  exact this a ha

theorem AWp.name {E : Env} {r : Option Nat} {c : Code} {Q : Exit → St → Prop} {tm : List AV} {h : List AObj} (hw : ∀ h0, h0 = h → AWp E r c Q ⟨tm, h0⟩) : AWp E r c Q ⟨tm, h⟩ := hw h rfl
theorem c116m {q : Nat} {ws : List (List UInt8)} {out : Nat → List (List UInt8)} {w : List UInt8} (hwl : w.length ≤ 100000) {tm : List AV} {ps : List Nat} {cs bd : Code}
    (hround : ∀ n, n < w.length + 1 → n ≤ w.length → YC Tryz.prog 4 [.p (.str (w.take n))] (miH q ws (out n) w (.lp tm ps cs bd .ready)) [2] (fun v h' => v = .p (.bool true) ∧ h' = miH q ws (out (n + 1)) w (.lp tm ps cs bd .ready))) :
    AC Tryz.prog 116 [.yld 4, .ptr 3 0] (miH q ws (out 0) w (.lp tm ps cs bd .ready)) [2] (fun _ h' => h' = miH q ws (out (w.length + 1)) w (.lp tm ps cs bd .ready)) :=
  c116 (by simp) (by simp) w hwl (fun n => miH q ws (out n) w (.lp tm ps cs bd .ready)) (w.length + 1) (w.length + 1) (by simp [miH]) (fun n _ => rfl) hround (.inl ⟨rfl, rfl⟩)

theorem cm62 (q : Nat) (ws : List (List UInt8)) (hv : Valid q ws) : PFn Tryz.prog 62 [codeV q ws] [.sl ((missing q ws).map .str)] := by
  have hlen := hv.len
  have hq16 := hv.q16
  have hws := hv.words
  refine PFn.of_body hΓ Tryz.func62 (by kernel_rfl) rfl (AWp.seq (AWp.of_awpD [] hΓ hmix (by kernel_rfl) ?_))
  simp -implicitDefEqProofs only [Tryz.ntmps62, Tryz.results62, Nat.reduceAdd, Nat.reduceSub, codeV, go_sem]
  refine AWp.seq (AWp.of_awpD [] hΓ hmix (by kernel_rfl) ?_)
  simp -implicitDefEqProofs only [go_sem]
  refine AWp.adoptBox (l := []) 1 9 1 rfl (by simp) ?_
  simp -implicitDefEqProofs only [List.set_cons_zero, List.set_cons_succ, go_sem]
  refine AWp.seq (AWp.of_awpD [] hΓ hmix (by kernel_rfl) ?_)
  simp -implicitDefEqProofs only [go_sem]
  refine AWp.loopJ (fun i : Nat => ⟨mkF 49 [(1, .ptr 0 0), (3, .ptr 1 0), (10, .p (.sl (ws.map .str))), (11, .p (.int .i64 ws.length)), (12, .p (.int .i64 i))], [.box [.p (.int .i64 q), .p (.sl (ws.map .str))], .box [.own 2 (missL q ws i).length], .row 9 1 ((missL q ws i).map .str) (rkOf (missL q ws i))]⟩)
    (fun i => i ≤ ws.length) (fun i => ws.length - i) 0 (fun x => by simp [BelowAll, mkF, AV.blw, AV.blw.blwL, blwH, AObj.blw]) (by simp [go_sem, missL, rkOf]) (by omega) ?_
  intro i hi
  refine AWp.seq (AWp.of_awpD [] hΓ hmix (by kernel_rfl) ?_)
  simp -implicitDefEqProofs only [go_sem]
  by_cases hlt : i < ws.length
  · have hlt' : (i : Int) < (ws.length : Int) := by omega
    have hg : (ws.map PV.str).getD i default = .str ws[i] := getD_map_lt _ _ _ _ hlt
    obtain ⟨hw0, hw32, hwc⟩ := hws ws[i] (List.getElem_mem hlt)
    have hwp : 0 < ws[i].length := List.length_pos_iff.2 hw0
    refine AWp.seq (AWp.of_awpD [] hΓ hmix (by kernel_rfl) ?_)
    simp -implicitDefEqProofs only [hlt, go_sem]
    refine AWp.seq (AWp.block ?_)
    refine AWp.seq (AWp.of_awpD [] hΓ hmix (by kernel_rfl) ?_)
    simp -implicitDefEqProofs only [hlt, hg, Int.toNat_natCast, go_sem]
    refine AWp.seq (AWp.of_awpD [] hΓ hmix (by kernel_rfl) ?_)
    simp -implicitDefEqProofs only [go_sem]
    refine ⟨by simp only [InR]; omega, ⟨by omega, by omega⟩, ?_⟩
    refine callK_ac (c73 _) (by simp) ?_
    rintro v h' ⟨rfl, rfl⟩
    simp -implicitDefEqProofs only [killAll, List.foldl, go_sem]
    generalize hwe : ws[i] = w at *
    have hz : ((w.length : Int) - 1).toNat = w.length - 1 := by omega
    rw [hz]
    have hlL := missL_len (q := q) (ws := ws) (by omega) (fun x hx => (hws x hx).2.1) i (by omega)
    have hs0 := missL_succ (q := q) hlt
    rw [hwe] at hs0
    have htk : ∀ n, n ≤ w.length - 1 → (w.take (w.length - 1)).take n = w.take n := fun n hn => by rw [List.take_take, Nat.min_eq_left hn]
    have hwl' : (w.take (w.length - 1)).length = w.length - 1 := by rw [List.length_take]; omega
    generalize hxe : w.take (w.length - 1) = x at *
    refine AWp.block ?_
    refine AWp.weak (st' := ⟨mkF 49 [(1, .ptr 0 0), (3, .ptr 1 0), (10, .p (.sl (ws.map .str))), (11, .p (.int .i64 ws.length)), (12, .p (.int .i64 i)), (21, .fn 116 [.ptr 3 0])], [.box [.p (.int .i64 q), .p (.sl (ws.map .str))], .box [.own 2 (missL q ws i ++ missW q ws w 0).length], .row 9 1 ((missL q ws i ++ missW q ws w 0).map .str) (rkOf (missL q ws i ++ missW q ws w 0)), .box [.p (.str x)]]⟩) (by simp [go_sem, weakH_self, missW]) ?_
    rw [show (#[22] : Array Nat) = [22].toArray from rfl]
    refine AWp.rangeFunc (ks := [2]) rfl (c116m (q := q) (ws := ws) (out := fun n => missL q ws i ++ missW q ws w n) (w := x) (by omega) ?_) (by simp) (by simp) ?_
    · intro n hn hnx
      rw [htk n (by omega)]
      have hpl : (w.take n).length ≤ 32 := by rw [List.length_take]; omega
      have hmw := missW_len q ws w n
      have hmw2 : q * n ≤ 16 * 32 := Nat.mul_le_mul (by omega) (by omega)
      have hnext : missW q ws w (n + 1) = missW q ws w n ++ missP ws (w.take n) q := missW_succ q ws w n
      rw [hnext]
      generalize hpe : w.take n = p at *
      generalize hoe : missL q ws i ++ missW q ws w n = out at *
      have hol : out.length ≤ 512 * 64 + 512 := by rw [← hoe, List.length_append]; omega
      rw [← List.append_assoc, hoe]
      unfold miH
      refine YC.of_body (Γ := Γ) rfl rfl (by simp) ?_
      intro rr
      refine AWp.of_awpD [] hΓ hmix (by kernel_rfl) ?_
      simp -implicitDefEqProofs only [setP, go_sem]
      unfold BeginE
      refine ⟨rfl, ?_⟩
      simp -implicitDefEqProofs only [go_sem]
      refine AWp.of_awpD [] hΓ hmix (by kernel_rfl) ?_
      simp -implicitDefEqProofs only [go_sem]
      refine AWp.name ?_
      intro h0 hh0
      obtain ⟨rec, hh⟩ : ∃ rec, h0 = [.box [.p (.int .i64 q), .p (.sl (ws.map .str))], .box [.own 2 out.length], .row 9 1 (out.map .str) (rkOf out), .box [.p (.str x)], rec] := ⟨_, hh0⟩
      rw [hh] at hh0 ⊢
      simp only [List.cons.injEq, true_and, and_true] at hh0
      refine AWp.loopI (fun a : Nat => ⟨mkF 49 [(1, .ptr 0 0), (3, .ptr 1 0), (6, .p (.str p)), (24, .p (.int .i64 q)), (25, .p (.int .i64 a))], [.box [.p (.int .i64 q), .p (.sl (ws.map .str))], .box [.own 2 (out ++ missP ws p a).length], .row 9 1 ((out ++ missP ws p a).map .str) (rkOf (out ++ missP ws p a)), .box [.p (.str x)], rec]⟩)
        (fun a => a ≤ q) (fun a => q - a) 0 (by simp [go_sem, weakH_self, missP]) (by omega) ?_
      intro a ha
      refine AWp.of_awpD [] hΓ hmix (by kernel_rfl) ?_
      have hPl := missP_len ws p a
      by_cases hlta : a < q
      · have hlta' : (a : Int) < (q : Int) := by omega
        have h1 : ((a : Int) + 1).toNat - a = 1 := by omega
        have h16 : a < 16 := by omega
        have e74 := cm74 ws (p ++ [letA a]) (by omega)
        have hsuc := missP_succ ws p a
        have hkr : AObj.kill 2 rec = rec := by rw [hh0]; simp [AObj.kill, AV.kill, AV.kill.killL]
        have hs1 : sizeOK [PV.str (p ++ [letA a])] 1 := by simp [sizeOK, PV.cells]
        have ho1 : oneOK [PV.str (p ++ [letA a])] := by simp [oneOK, PV.cells, PV.isAgg]
        simp -implicitDefEqProofs only [hlta, Int.toNat_natCast, h1, sub_letters h16, go_sem]
        refine ⟨by simp only [InR]; omega, ⟨by omega, by omega⟩, by omega, callK_fn e74 (.pures rfl) ?_⟩
        cases hb : ws.any fun x => (p ++ [letA a]).isPrefixOf x
        · have hm : missA ws p a = [p ++ [letA a]] := by unfold missA begB; rw [hb]; rfl
          rw [hm] at hsuc
          have hkb : ∀ l, AObj.kill 2 (.box l) = .box (l.map (AV.kill 2)) := fun _ => rfl
          have hko : ∀ E s xs k, AObj.kill 2 (.row E s xs k) = .row E s xs k := fun _ _ _ _ => rfl
          simp -implicitDefEqProofs only [hkr, hkb, hko, AV.kill, AV.kill.killL, go_sem]
          refine ⟨⟨hs1, by omega⟩, ⟨hs1, ho1⟩, ⟨by unfold rkOf; split <;> simp, .inr (by simp), by rw [List.length_append]; omega, by rw [List.length_append]; omega⟩, by simp only [InR]; omega, a + 1, ?_, by omega, by omega⟩
          rw [hsuc, ← List.append_assoc, rkOf_snoc]
          simp
          exact ⟨by omega, .inr (.inl hkr.symm)⟩
        · have hm : missA ws p a = [] := by unfold missA begB; rw [hb]; rfl
          rw [hm, List.append_nil] at hsuc
          simp -implicitDefEqProofs only [go_sem]
          exact ⟨by simp only [InR]; omega, a + 1, by rw [hsuc]; simp [weakH_self], by omega, by omega⟩
      · have haq : a = q := by omega
        subst haq
        subst hh0
        simp -implicitDefEqProofs only [Int.lt_irrefl, Nat.lt_irrefl, go_sem]
        unfold RoundE
        simp -implicitDefEqProofs only [go_sem]
        exact ⟨5, Nat.le_refl _, .inl rfl, rfl⟩
    · rintro v h' rfl
      unfold miH RangeK
      simp -implicitDefEqProofs only [killAll, List.foldl, go_sem]
      refine AWp.of_awpD [] hΓ hmix (by kernel_rfl) ?_
      simp -implicitDefEqProofs only [List.set_cons_zero, List.set_cons_succ, go_sem]
      have hxl : x.length + 1 = w.length := by omega
      rw [hxl]
      exact ⟨by simp only [InR]; omega, i + 1, ⟨by simp, by rw [hs0], .inl ⟨by rw [hs0], by rw [hs0]⟩⟩, hlt, by omega⟩
  have hiw : i = ws.length := by omega
  subst hiw
  refine AWp.of_awpD [] hΓ hmix (by kernel_rfl) ?_
  simp -implicitDefEqProofs only [Int.lt_irrefl, Nat.lt_irrefl, go_sem]
  have hlL := missL_len (q := q) (ws := ws) (by omega) (fun x hx => (hws x hx).2.1) ws.length (Nat.le_refl _)
  unfold missing
  generalize missL q ws ws.length = out at *
  refine AWp.of_awpD [] hΓ hmix (by kernel_rfl) ?_
  simp -implicitDefEqProofs only [go_sem]
  by_cases h0 : out = []
  · subst h0
    refine callK_ac (c83n (b := 2)) (by simp) ?_
    rintro v h' ⟨rfl, rfl⟩
    simp -implicitDefEqProofs only [killAll, List.foldl, go_sem]
    refine callK_ac (c107n (b := 2)) (by simp) ?_
    rintro v h' ⟨rfl, rfl⟩
    simp -implicitDefEqProofs only [killAll, List.foldl, made_nil, go_sem]
  · have hrk : rkOf out = .own := by unfold rkOf; rw [if_neg h0]
    rw [hrk]
    refine callK_ac (cm106 out rfl (by omega)) (by simp) ?_
    rintro v h' ⟨rfl, rfl⟩
    have hsl := sortW_length out
    simp -implicitDefEqProofs only [killAll, List.foldl, List.set_cons_zero, List.set_cons_succ, go_sem]
    rw [← hsl]
    refine callK_ac (c107 (sortW out) rfl (by omega)) (by simp) ?_
    rintro v h' ⟨rfl, rfl⟩
    simp -implicitDefEqProofs only [killAll, List.foldl, List.set_cons_zero, List.set_cons_succ, made, go_sem]
end Go.Proofs.YtjjedaikbgfmmaaGreat
end

section
namespace Go.Proofs.YtjjedaikbgfmmaaGreat
open Go Go.AM
set_option maxRecDepth 100000
set_option linter.unusedSimpArgs false

/-- Sorted's memory: held is the list so far, or nobody's. -/
def stH (m : Nat) (o : Bool) (l : List (List UInt8)) : List AObj := List.replicate m .dead ++ [if o then .row 9 1 (l.map .str) .lax else .dead]
def stV (m : Nat) (o : Bool) (l : List (List UInt8)) : AV := if o then .own m l.length else .p (.sl (l.map .str))

theorem weakH_snoc {a b : AObj} (h : b = .dead ∨ b = a ∨ laxer a b) : ∀ H : List AObj, weakH (H ++ [a]) (H ++ [b])
  | [] => ⟨h, trivial⟩
  | _ :: H => ⟨.inr (.inl rfl), weakH_snoc h H⟩

/-- A word put in where it belongs. -/
def putAt (l : List (List UInt8)) (k : Nat) (w : List UInt8) : List (List UInt8) := l.take k ++ [w] ++ l.drop k
theorem putAt_strict {l : List (List UInt8)} {k : Nat} {w : List UInt8} (hp : l.Pairwise ltW) (hk : k ≤ l.length) (hlow : ∀ j, j < k → cmpW (l.getD j []) w < 0) (hup : k < l.length → ltW w (l.getD k [])) : (putAt l k w).Pairwise ltW := by
  have h1 := List.pairwise_iff_getElem.1 hp
  unfold putAt
  rw [List.append_assoc, List.pairwise_append]
  refine ⟨hp.sublist (List.take_sublist k l), ?_, fun x hx y hy => ?_⟩
  · rw [List.singleton_append, List.pairwise_cons]
    refine ⟨fun y hy => ?_, hp.sublist (List.drop_sublist k l)⟩
    obtain ⟨j, hj, rfl⟩ := List.getElem_of_mem hy
    rw [List.getElem_drop]
    rw [List.length_drop] at hj
    have h2 := hup (by omega)
    rw [List.getD_eq_getElem?_getD, List.getElem?_eq_getElem (by omega), Option.getD_some] at h2
    by_cases e : j = 0
    · subst e; exact h2
    · exact ltW_trans h2 (h1 k (k + j) (by omega) (by omega) (by omega))
  · obtain ⟨j, hj, rfl⟩ := List.mem_take_iff_getElem.1 hx
    have hjk : j < k := by omega
    have hjl : j < l.length := by omega
    have h3 := hlow j hjk
    rw [List.getD_eq_getElem?_getD, List.getElem?_eq_getElem hjl, Option.getD_some] at h3
    rcases List.mem_cons.1 (by simpa using hy) with rfl | hy
    · exact (ltW_iff _ _).1 h3
    · obtain ⟨q, hq, rfl⟩ := List.getElem_of_mem hy
      rw [List.getElem_drop]
      rw [List.length_drop] at hq
      exact h1 j (k + q) hjl (by omega) (by omega)
theorem mem_putAt {l : List (List UInt8)} {k : Nat} {w x : List UInt8} : x ∈ putAt l k w ↔ x ∈ l ∨ x = w := by
  unfold putAt
  conv => rhs; rw [← List.take_append_drop k l]
  simp only [List.mem_append, List.mem_singleton]
  constructor
  · rintro ((h | h) | h)
    · exact .inl (.inl h)
    · exact .inr h
    · exact .inl (.inr h)
  · rintro ((h | h) | h)
    · exact .inl (.inl h)
    · exact .inr h
    · exact .inl (.inr h)
theorem putAt_len {l : List (List UInt8)} {k : Nat} {w : List UInt8} (hk : k ≤ l.length) : (putAt l k w).length = l.length + 1 := by
  unfold putAt; simp; omega

theorem stH_false (m : Nat) (l : List (List UInt8)) : stH m false l = List.replicate (m + 1) .dead := by simp [stH, List.replicate_succ']

theorem u50 (ws : List (List UInt8)) (hl : ws.length ≤ 1000000) : PFn Tryz.prog 109 [.sl (ws.map .str)] [.sl ((made ws).map .str)] := by
  refine PFn.of_body hΓ Tryz.func109 (by kernel_rfl) rfl (AWp.of_awpD [] hΓ hmix (by kernel_rfl) ?_)
  simp -implicitDefEqProofs only [Tryz.ntmps109, Tryz.results109, Nat.reduceAdd, Nat.reduceSub, go_sem]
  refine AWp.adopt (l := []) 3 9 1 (by rfl) (by simp) ?_
  simp -implicitDefEqProofs only [go_sem]
  refine AWp.loopI (fun x : Nat × List (List UInt8) × Nat × Bool => ⟨mkF 60 [(0, .p (.sl (ws.map .str))), (3, stV x.2.2.1 x.2.2.2 x.2.1), (4, .p (.int .i64 x.1))], stH x.2.2.1 x.2.2.2 x.2.1⟩)
    (fun x => x.1 ≤ ws.length ∧ x.2.1.length ≤ x.1 ∧ x.2.1.Pairwise ltW ∧ (∀ v, v ∈ x.2.1 ↔ v ∈ ws.take x.1)) (fun x => ws.length - x.1) (0, [], 0, true) (by simp [go_sem, stV, stH]) (by simp) ?_
  rintro ⟨i, l, m, o⟩ ⟨hi, hli, hp, hm⟩
  simp only at hi hli hp hm
  refine AWp.freezeIf (E := 9) (s := 1) (k := .lax) (xs := l.map .str) o m (by rintro rfl; simp [stH]) ?_
  have e : ∀ st : St, st = ⟨mkF 60 [(0, .p (.sl (ws.map .str))), (3, stV m o l), (4, .p (.int .i64 i))], stH m o l⟩ → (if o = true then Frozen st m (l.map .str) else st) = ⟨mkF 60 [(0, .p (.sl (ws.map .str))), (3, .p (.sl (l.map .str))), (4, .p (.int .i64 i))], List.replicate (m + 1) .dead⟩ := by
    rintro _ rfl
    cases o
    · simp [stV, stH_false]
    · simp [Frozen, go_sem, stV, stH, List.replicate_succ', AV.thaw, AObj.thaw]
  rw [e _ rfl]
  clear e
  obtain ⟨H, hH⟩ : ∃ H : List AObj, H = List.replicate (m + 1) .dead := ⟨_, rfl⟩
  have hHl : H.length = m + 1 := by rw [hH]; simp
  have hK : H.map (AObj.kill (m + 1)) = H := by rw [hH]; simp [AObj.kill]
  rw [← hH]
  have gL : ∀ o : AObj, (H ++ [o])[H.length]? = some o := fun o => by simp
  have sL : ∀ o o' : AObj, (H ++ [o]).set H.length o' = H ++ [o'] := fun o o' => by simp
  have hKL : H.map (AObj.kill H.length) = H := by rw [hHl]; exact hK
  refine AWp.of_awpD [(8, 15), (9, 1000)] hΓ hmix (by kernel_rfl) ?_
  by_cases hlt : i < ws.length
  · simp -implicitDefEqProofs only [hlt, getD_map_lt, ↓reduceIte, go_sem]
    refine AWp.loopI (fun k : Nat => ⟨mkF 60 [(0, .p (.sl (ws.map .str))), (3, .p (.sl (l.map .str))), (4, .p (.int .i64 i)), (5, .p (.int .i64 k))], H⟩)
      (fun k => k ≤ l.length ∧ ∀ j, j < k → cmpW (l.getD j []) ws[i] < 0) (fun k => l.length - k) 0 (by simp [go_sem, weakH_self]) (by simp) ?_
    rintro k ⟨hk, hlow⟩
    refine AWp.of_awpD [(6, 15)] hΓ hmix (by kernel_rfl) ?_
    by_cases hkl : k < l.length
    · simp -implicitDefEqProofs only [hlt, hkl, getD_map_lt, ↓reduceIte, go_sem]
      refine callVPK_fn (t79' l[k] ws[i]) (.pures rfl) ?_
      by_cases hc : cmpW l[k] ws[i] < 0
      · simp -implicitDefEqProofs only [hlt, hkl, hc, decide_true, getD_map_lt, ↓reduceIte, go_sem]
        refine ⟨by simp only [InR]; omega, k + 1, ⟨by omega, weakH_self _⟩, ⟨by omega, fun j hj => ?_⟩, by omega⟩
        by_cases hjk : j = k
        · subst hjk
          rw [List.getD_eq_getElem?_getD, List.getElem?_eq_getElem hkl, Option.getD_some]; exact hc
        · exact hlow j (by omega)
      · by_cases he : l[k] = ws[i]
        · have hc' : ¬ cmpW ws[i] ws[i] < 0 := by rw [he] at hc; exact hc
          simp -implicitDefEqProofs only [hlt, hkl, hc', decide_false, he, getD_map_lt, ↓reduceIte, go_sem]
          refine ⟨by simp only [InR]; omega, (i + 1, l, m, false), ⟨⟨.inr (by simp [stV]), by simp⟩, ?_⟩, ⟨by simp only; omega, by simp only; omega, hp, fun v => ?_⟩, by simp only; omega⟩
          · simp only [stH_false]; rw [← hH]; exact weakH_self _
          · rw [hm, List.take_succ_eq_append_getElem hlt, List.mem_append, List.mem_singleton]
            refine ⟨.inl, fun h => h.elim id fun h => ?_⟩
            subst h
            exact (hm _).1 (by rw [← he]; exact List.getElem_mem hkl)
        · simp -implicitDefEqProofs only [hlt, hkl, hc, decide_false, he, getD_map_lt, ↓reduceIte, go_sem]
          have hup : k < l.length → ltW ws[i] (l.getD k []) := fun _ => by
            rw [List.getD_eq_getElem?_getD, List.getElem?_eq_getElem hkl, Option.getD_some]
            apply Classical.byContradiction
            intro hno
            exact he (ltW_total (fun h => hc ((ltW_iff _ _).2 h)) hno)
          refine AWp.planL (.q 0 (.q 1 (.q 2 (.q 3 (.q 5 (.q 6 (.q 7 (.q 8 (.q 9 (.q 11 (.q 12 (.q 13 (.e 4 (.s 5 (.s 6 (.s 7 (.s 8 (.s 9 (.s 11 (.s 12 (.s 13 (.e 10 (.s 11 (.s 12 (.s 13 (.e 14 (.q 15 .fin) .nil)))) .nil))))))))) .nil))))))))))))) hΓ hmix (by kernel_rfl) ?_
          simp -implicitDefEqProofs only [hlt, hkl, getD_map_lt, ↓reduceIte, gL, sL, hKL, go_sem]
          have hpl := putAt_strict hp hk hlow hup
          have hlen := putAt_len (w := ws[i]) hk
          have hmem : ∀ v, v ∈ putAt l k ws[i] ↔ v ∈ ws.take (i + 1) := fun v => by
            rw [mem_putAt, hm, List.take_succ_eq_append_getElem hlt, List.mem_append, List.mem_singleton]
          have ht : (l.take k).length = k := by simp; omega
          have hd : (l.drop k).length = l.length - k := by simp
          rw [← List.map_take, ← List.map_drop]
          generalize hrk : (if (List.map PV.str (List.take k l)).isEmpty = true then RK.lax else RK.own) = rk1
          have hr1 : rk1 ≠ .raw := by rw [← hrk]; split <;> simp
          simp only [List.map_append, hKL, List.map_cons, List.map_nil, AObj.kill, sL, gL, List.isEmpty_cons, Bool.false_eq_true, if_false, List.length_map]
          refine ⟨⟨by simp [sizeOK], by omega⟩, size_str _, by omega, ⟨size_str [ws[i]], by omega⟩, size_str _, by omega, ⟨size_str _, one_str _⟩, ⟨by simp [sizeOK], by omega, by omega⟩, ⟨size_str [ws[i]], by omega⟩, ⟨size_str _, by omega⟩, ⟨size_str [ws[i]], one_str [ws[i]]⟩, ⟨hr1, .inl (by omega), by omega, by omega⟩, ⟨size_str _, by omega⟩, ⟨size_str _, one_str _⟩, ⟨by simp, .inl (by omega), trivial, trivial, by omega, by omega⟩, by simp only [InR]; omega,
            (i + 1, putAt l k ws[i], m + 1, true), ⟨⟨.inr ?_, by simp⟩, ?_⟩, ⟨by simp only; omega, by simp only; omega, hpl, hmem⟩, by simp only; omega⟩
          · simp only [stV, if_true]
            rw [hHl]; congr 1; omega
          · simp only [stH, if_true]
            rw [← hH]
            have e3 : (putAt l k ws[i]).map PV.str = List.map PV.str (List.take k l) ++ [PV.str ws[i]] ++ List.map PV.str (List.drop k l) := by simp [putAt]
            rw [e3]
            refine weakH_snoc ?_ H
            by_cases hb : (List.map PV.str (List.drop k l)).isEmpty = true
            · rw [if_pos hb]; exact .inr (.inr rfl)
            · rw [if_neg hb]; exact .inr (.inr rfl)
    · simp -implicitDefEqProofs only [hlt, hkl, getD_map_lt, ↓reduceIte, go_sem]
      have hup : k < l.length → ltW ws[i] (l.getD k []) := fun h => absurd h hkl
      refine AWp.planL (.q 0 (.q 1 (.q 2 (.q 3 (.q 5 (.q 6 (.q 7 (.q 8 (.q 9 (.q 11 (.q 12 (.q 13 (.e 4 (.s 5 (.s 6 (.s 7 (.s 8 (.s 9 (.s 11 (.s 12 (.s 13 (.e 10 (.s 11 (.s 12 (.s 13 (.e 14 (.q 15 .fin) .nil)))) .nil))))))))) .nil))))))))))))) hΓ hmix (by kernel_rfl) ?_
      simp -implicitDefEqProofs only [hlt, hkl, getD_map_lt, ↓reduceIte, gL, sL, hKL, go_sem]
      have hpl := putAt_strict hp hk hlow hup
      have hlen := putAt_len (w := ws[i]) hk
      have hmem : ∀ v, v ∈ putAt l k ws[i] ↔ v ∈ ws.take (i + 1) := fun v => by
        rw [mem_putAt, hm, List.take_succ_eq_append_getElem hlt, List.mem_append, List.mem_singleton]
      have ht : (l.take k).length = k := by simp; omega
      have hd : (l.drop k).length = l.length - k := by simp
      rw [← List.map_take, ← List.map_drop]
      generalize hrk : (if (List.map PV.str (List.take k l)).isEmpty = true then RK.lax else RK.own) = rk1
      have hr1 : rk1 ≠ .raw := by rw [← hrk]; split <;> simp
      simp only [List.map_append, hKL, List.map_cons, List.map_nil, AObj.kill, sL, gL, List.isEmpty_cons, Bool.false_eq_true, if_false, List.length_map]
      refine ⟨⟨by simp [sizeOK], by omega⟩, size_str _, by omega, ⟨size_str [ws[i]], by omega⟩, size_str _, by omega, ⟨size_str _, one_str _⟩, ⟨by simp [sizeOK], by omega, by omega⟩, ⟨size_str [ws[i]], by omega⟩, ⟨size_str _, by omega⟩, ⟨size_str [ws[i]], one_str [ws[i]]⟩, ⟨hr1, .inl (by omega), by omega, by omega⟩, ⟨size_str _, by omega⟩, ⟨size_str _, one_str _⟩, ⟨by simp, .inl (by omega), trivial, trivial, by omega, by omega⟩, by simp only [InR]; omega,
        (i + 1, putAt l k ws[i], m + 1, true), ⟨⟨.inr ?_, by simp⟩, ?_⟩, ⟨by simp only; omega, by simp only; omega, hpl, hmem⟩, by simp only; omega⟩
      · simp only [stV, if_true]
        rw [hHl]; congr 1; omega
      · simp only [stH, if_true]
        rw [← hH]
        have e3 : (putAt l k ws[i]).map PV.str = List.map PV.str (List.take k l) ++ [PV.str ws[i]] ++ List.map PV.str (List.drop k l) := by simp [putAt]
        rw [e3]
        refine weakH_snoc ?_ H
        by_cases hb : (List.map PV.str (List.drop k l)).isEmpty = true
        · rw [if_pos hb]; exact .inr (.inr rfl)
        · rw [if_neg hb]; exact .inr (.inr rfl)
  · simp -implicitDefEqProofs only [hlt, go_sem]
    rw [List.take_of_length_le (by omega)] at hm
    rw [made_of hp (fun x => (hm x).symm)]
end Go.Proofs.YtjjedaikbgfmmaaGreat
end

section
namespace Go.Proofs.YtjjedaikbgfmmaaGreat
open Go Go.AM
set_option maxRecDepth 100000
set_option linter.unusedSimpArgs false

theorem u52 (w x : List UInt8) : PFn Tryz.prog 124 [.str w, .str x] [.bool (x.isPrefixOf w)] := by
  refine PFn.of_body hΓ Tryz.func124 (by kernel_rfl) rfl (AWp.of_awpD [] hΓ hmix (by kernel_rfl) ?_)
  simp +contextual -implicitDefEqProofs only [Tryz.ntmps124, Tryz.results124, Nat.reduceAdd, Nat.reduceSub, go_sem]
  refine ⟨fun h => ?_, fun h => ?_⟩
  · rw [Bool.eq_iff_iff, List.isPrefixOf_iff_prefix, List.prefix_iff_eq_take, decide_eq_true_eq]; exact eq_comm
  · rw [Bool.eq_iff_iff, List.isPrefixOf_iff_prefix]
    exact ⟨fun h => by simp at h, fun h' => absurd h'.length_le (by omega)⟩
theorem u54 (w x : List UInt8) (hw : w.length ≤ 9223372036854775807) : PFn Tryz.prog 125 [.str w, .str x] [.bool (x.isSuffixOf w)] := by
  refine PFn.of_body hΓ Tryz.func125 (by kernel_rfl) rfl (AWp.of_awpD [] hΓ hmix (by kernel_rfl) ?_)
  simp +contextual -implicitDefEqProofs only [Tryz.ntmps125, Tryz.results125, Nat.reduceAdd, Nat.reduceSub, go_sem]
  refine ⟨fun h => ⟨by simp only [InR]; omega, by omega, ?_⟩, fun h => ?_⟩
  · rw [Bool.eq_iff_iff, List.isSuffixOf_iff_suffix, List.suffix_iff_eq_drop, decide_eq_true_eq, show ((w.length : Int) - x.length).toNat = w.length - x.length by omega]; exact eq_comm
  · rw [Bool.eq_iff_iff, List.isSuffixOf_iff_suffix]
    exact ⟨fun h => by simp at h, fun h' => absurd h'.length_le (by omega)⟩
theorem u86 (w x : List UInt8) (hw : w.length ≤ 9223372036854775807) : PFn Tryz.prog 128 [.str w, .str x] [.bool (x.isSuffixOf w)] := by
  refine PFn.of_body hΓ Tryz.func128 (by kernel_rfl) rfl (AWp.of_awpD [] hΓ hmix (by kernel_rfl) ?_)
  simp +contextual -implicitDefEqProofs only [Tryz.ntmps128, Tryz.results128, Nat.reduceAdd, Nat.reduceSub, go_sem]
  refine ⟨fun h => ⟨by simp only [InR]; omega, by omega, ?_⟩, fun h => ?_⟩
  · rw [Bool.eq_iff_iff, List.isSuffixOf_iff_suffix, List.suffix_iff_eq_drop, decide_eq_true_eq, show ((w.length : Int) - x.length).toNat = w.length - x.length by omega]; exact eq_comm
  · rw [Bool.eq_iff_iff, List.isSuffixOf_iff_suffix]
    exact ⟨fun h => by simp at h, fun h' => absurd h'.length_le (by omega)⟩
theorem u53 (w x : List UInt8) (hw : w.length ≤ 9223372036854775807) : PFn Tryz.prog 90 [.str w, .str x] [.bool (x.isSuffixOf w)] := by
  refine PFn.of_body hΓ Tryz.func90 (by kernel_rfl) rfl (AWp.of_awpD [] hΓ hmix (by kernel_rfl) ?_)
  simp +contextual -implicitDefEqProofs only [Tryz.ntmps90, Tryz.results90, Nat.reduceAdd, Nat.reduceSub, go_sem]
  refine callK_fn (u86 w x hw) (.pures rfl) ?_
  simp +contextual -implicitDefEqProofs only [go_sem]

theorem u17 (q : Int) (ws : List (List UInt8)) : PFn Tryz.prog 46 [codeV q ws] [.bool (if codeCheck q ws = 0 then aloneB (fun w x => x.isSuffixOf w) ws else false), .int .i64 (if codeCheck q ws = 0 then 0 else 1)] := by
  refine PFn.of_body hΓ Tryz.func46 (by kernel_rfl) rfl (AWp.of_awpD [] hΓ hmix (by kernel_rfl) ?_)
  simp +contextual -implicitDefEqProofs only [codeV, Tryz.ntmps46, Tryz.results46, Nat.reduceAdd, Nat.reduceSub, go_sem]
  refine callK_ac (c68 q ws u53) (by simp) ?_
  rintro v h' ⟨rfl, rfl⟩
  simp -implicitDefEqProofs only [killAll, List.foldl, codeB, go_sem]

theorem u16 (q : Int) (ws : List (List UInt8)) : PFn Tryz.prog 85 [codeV q ws] [.bool (if codeCheck q ws = 0 then aloneB (fun w x => x.isPrefixOf w) ws else false), .int .i64 (if codeCheck q ws = 0 then 0 else 1)] := by
  refine PFn.of_body hΓ Tryz.func85 (by kernel_rfl) rfl (AWp.of_awpD [] hΓ hmix (by kernel_rfl) ?_)
  simp +contextual -implicitDefEqProofs only [codeV, Tryz.ntmps85, Tryz.results85, Nat.reduceAdd, Nat.reduceSub, go_sem]
  refine callK_fn (t44 q ws) (.still rfl) ?_
  by_cases h : codeCheck q ws = 0
  · have hv := valid_of h
    have hws := hv.len
    rw [h]
    simp -implicitDefEqProofs only [go_sem]
    refine AWp.loopI (fun i : Nat => ⟨mkF 39 [(1, .ptr 0 0), (2, .p (.bool false)), (3, .p (.int .i64 0)), (4, .p (.int .i64 i))], [codeB q ws]⟩)
      (fun i => i ≤ ws.length ∧ aloneN (fun w x => x.isPrefixOf w) ws i = true) (fun i => ws.length - i) 0 (by simp [go_sem, codeB]) ⟨by omega, rfl⟩ ?_
    rintro i ⟨hi, hal⟩
    refine AWp.of_awpD [] hΓ hmix (by kernel_rfl) ?_
    by_cases hlt : i < ws.length
    · simp -implicitDefEqProofs only [hlt, getD_map_lt, ↓reduceIte, codeB, go_sem]
      refine AWp.loopI (fun k : Nat => ⟨mkF 39 [(1, .ptr 0 0), (2, .p (.bool false)), (3, .p (.int .i64 0)), (4, .p (.int .i64 i)), (5, .p (.int .i64 k))], [codeB q ws]⟩)
        (fun k => k ≤ ws.length ∧ aloneTo (fun w x => x.isPrefixOf w) ws i k = true) (fun k => ws.length - k) 0 (by simp [go_sem, codeB]) ⟨by omega, rfl⟩ ?_
      rintro k ⟨hk, hal2⟩
      refine AWp.of_awpD [(9, 16)] hΓ hmix (by kernel_rfl) ?_
      have hwi : ws.getD i [] = ws[i] := by rw [List.getD_eq_getElem?_getD, List.getElem?_eq_getElem hlt, Option.getD_some]
      have hsh : ws[i].length ≤ 9223372036854775807 := by have := hv.short i hlt; rw [hwi] at this; omega
      by_cases hlt2 : k < ws.length
      · have hwk : ws.getD k [] = ws[k] := by rw [List.getD_eq_getElem?_getD, List.getElem?_eq_getElem hlt2, Option.getD_some]
        by_cases he : (i : Int) = k
        · simp -implicitDefEqProofs only [hlt2, he, getD_map_lt, ↓reduceIte, codeB, go_sem]
          refine ⟨by simp only [InR]; omega, k + 1, by omega, ⟨hlt2, ?_⟩, by omega⟩
          rw [aloneTo_succ, hal2, decide_eq_true (by omega)]; rfl
        · simp -implicitDefEqProofs only [hlt, hlt2, he, getD_map_lt, ↓reduceIte, codeB, go_sem]
          refine callVPK_fn (u52 ws[i] ws[k]) (.pures rfl) ?_
          cases hp : ws[k].isPrefixOf ws[i]
          · simp -implicitDefEqProofs only [hlt, hlt2, he, getD_map_lt, ↓reduceIte, codeB, go_sem]
            refine ⟨by simp only [InR]; omega, k + 1, by omega, ⟨hlt2, ?_⟩, by omega⟩
            rw [aloneTo_succ, hal2, hwi, hwk, hp]; simp
          · simp -implicitDefEqProofs only [hlt, hlt2, he, getD_map_lt, ↓reduceIte, codeB, go_sem]
            rw [alone_bad hlt hlt2 (by omega) (by rw [hwi, hwk]; exact hp)]
      · simp -implicitDefEqProofs only [hlt2, codeB, go_sem]
        refine ⟨by simp only [InR]; omega, i + 1, by omega, ⟨hlt, ?_⟩, by omega⟩
        rw [aloneN_succ, hal, show ws.length = k by omega, hal2]; rfl
    · simp -implicitDefEqProofs only [hlt, codeB, go_sem]
      rw [show i = ws.length by omega] at hal; exact hal.symm
  · simp -implicitDefEqProofs only [h, go_sem]

theorem u18 (q : Int) (ws : List (List UInt8)) : PFn Tryz.prog 86 [codeV q ws] [.bool (if codeCheck q ws = 0 then aloneB (fun w x => x.isSuffixOf w) ws else false), .int .i64 (if codeCheck q ws = 0 then 0 else 1)] := by
  refine PFn.of_body hΓ Tryz.func86 (by kernel_rfl) rfl (AWp.of_awpD [] hΓ hmix (by kernel_rfl) ?_)
  simp +contextual -implicitDefEqProofs only [codeV, Tryz.ntmps86, Tryz.results86, Nat.reduceAdd, Nat.reduceSub, go_sem]
  refine callK_fn (t44 q ws) (.still rfl) ?_
  by_cases h : codeCheck q ws = 0
  · have hv := valid_of h
    have hws := hv.len
    rw [h]
    simp -implicitDefEqProofs only [go_sem]
    refine AWp.loopI (fun i : Nat => ⟨mkF 39 [(1, .ptr 0 0), (2, .p (.bool false)), (3, .p (.int .i64 0)), (4, .p (.int .i64 i))], [codeB q ws]⟩)
      (fun i => i ≤ ws.length ∧ aloneN (fun w x => x.isSuffixOf w) ws i = true) (fun i => ws.length - i) 0 (by simp [go_sem, codeB]) ⟨by omega, rfl⟩ ?_
    rintro i ⟨hi, hal⟩
    refine AWp.of_awpD [] hΓ hmix (by kernel_rfl) ?_
    by_cases hlt : i < ws.length
    · simp -implicitDefEqProofs only [hlt, getD_map_lt, ↓reduceIte, codeB, go_sem]
      refine AWp.loopI (fun k : Nat => ⟨mkF 39 [(1, .ptr 0 0), (2, .p (.bool false)), (3, .p (.int .i64 0)), (4, .p (.int .i64 i)), (5, .p (.int .i64 k))], [codeB q ws]⟩)
        (fun k => k ≤ ws.length ∧ aloneTo (fun w x => x.isSuffixOf w) ws i k = true) (fun k => ws.length - k) 0 (by simp [go_sem, codeB]) ⟨by omega, rfl⟩ ?_
      rintro k ⟨hk, hal2⟩
      refine AWp.of_awpD [(9, 16)] hΓ hmix (by kernel_rfl) ?_
      have hwi : ws.getD i [] = ws[i] := by rw [List.getD_eq_getElem?_getD, List.getElem?_eq_getElem hlt, Option.getD_some]
      have hsh : ws[i].length ≤ 9223372036854775807 := by have := hv.short i hlt; rw [hwi] at this; omega
      by_cases hlt2 : k < ws.length
      · have hwk : ws.getD k [] = ws[k] := by rw [List.getD_eq_getElem?_getD, List.getElem?_eq_getElem hlt2, Option.getD_some]
        by_cases he : (i : Int) = k
        · simp -implicitDefEqProofs only [hlt2, he, getD_map_lt, ↓reduceIte, codeB, go_sem]
          refine ⟨by simp only [InR]; omega, k + 1, by omega, ⟨hlt2, ?_⟩, by omega⟩
          rw [aloneTo_succ, hal2, decide_eq_true (by omega)]; rfl
        · simp -implicitDefEqProofs only [hlt, hlt2, he, getD_map_lt, ↓reduceIte, codeB, go_sem]
          refine callVPK_fn (u54 ws[i] ws[k] hsh) (.pures rfl) ?_
          cases hp : ws[k].isSuffixOf ws[i]
          · simp -implicitDefEqProofs only [hlt, hlt2, he, getD_map_lt, ↓reduceIte, codeB, go_sem]
            refine ⟨by simp only [InR]; omega, k + 1, by omega, ⟨hlt2, ?_⟩, by omega⟩
            rw [aloneTo_succ, hal2, hwi, hwk, hp]; simp
          · simp -implicitDefEqProofs only [hlt, hlt2, he, getD_map_lt, ↓reduceIte, codeB, go_sem]
            rw [alone_bad hlt hlt2 (by omega) (by rw [hwi, hwk]; exact hp)]
      · simp -implicitDefEqProofs only [hlt2, codeB, go_sem]
        refine ⟨by simp only [InR]; omega, i + 1, by omega, ⟨hlt, ?_⟩, by omega⟩
        rw [aloneN_succ, hal, show ws.length = k by omega, hal2]; rfl
    · simp -implicitDefEqProofs only [hlt, codeB, go_sem]
      rw [show i = ws.length by omega] at hal; exact hal.symm
  · simp -implicitDefEqProofs only [h, go_sem]

theorem u23 (q p : Int) (us bs : List (List UInt8)) (hl : us.length ≤ 9223372036854775807) : PFn Tryz.prog 25 [codeV q us, codeV p bs] [.bool (decide (q = p ∧ us = bs))] := by
  by_cases hq : q = p
  rotate_left
  · rw [decide_eq_false (fun e => hq e.1)]
    refine PFn.of_body hΓ Tryz.func25 (by kernel_rfl) rfl (AWp.of_awpD [] hΓ hmix (by kernel_rfl) ?_)
    simp -implicitDefEqProofs only [Tryz.ntmps25, Tryz.results25, Nat.reduceAdd, Nat.reduceSub, codeV, hq, go_sem]
  subst hq
  rw [show decide (q = q ∧ us = bs) = decide (us = bs) by simp]
  refine PFn.of_body hΓ Tryz.func25 (by kernel_rfl) rfl (AWp.of_awpD [] hΓ hmix (by kernel_rfl) ?_)
  by_cases hn : (us.length : Int) = bs.length
  rotate_left
  · rw [decide_eq_false (fun e => hn (by rw [e]))]
    simp -implicitDefEqProofs only [Tryz.ntmps25, Tryz.results25, Nat.reduceAdd, Nat.reduceSub, codeV, hn, go_sem]
  simp -implicitDefEqProofs only [Tryz.ntmps25, Tryz.results25, Nat.reduceAdd, Nat.reduceSub, codeV, hn, go_sem]
  have hn' : us.length = bs.length := by omega
  refine AWp.loopI (fun k : Nat => ⟨mkF 38 [(2, .ptr 0 0), (3, .ptr 1 0), (4, .p (.bool false)), (5, .p (.int .i64 k))], [codeB q us, codeB q bs]⟩)
    (fun k => k ≤ us.length ∧ us.take k = bs.take k) (fun k => us.length - k) 0 (by simp [go_sem, codeB]) (by simp) ?_
  rintro k ⟨hk, heq⟩
  refine AWp.of_awpD [(6, 11)] hΓ hmix (by kernel_rfl) ?_
  by_cases hlt : k < us.length
  · have hlt2 : k < bs.length := by omega
    by_cases he : us[k] = bs[k]
    · simp -implicitDefEqProofs only [hlt, hlt2, he, getD_map_lt, ↓reduceIte, codeB, go_sem]
      refine ⟨by simp only [InR]; omega, k + 1, by omega, ⟨hlt, ?_⟩, by omega⟩
      rw [List.take_succ_eq_append_getElem hlt, List.take_succ_eq_append_getElem hlt2, heq, he]
    · simp -implicitDefEqProofs only [hlt, hlt2, he, getD_map_lt, ↓reduceIte, codeB, go_sem]
      refine (decide_eq_false fun e => he ?_).symm
      subst e; rfl
  · simp -implicitDefEqProofs only [hlt, codeB, go_sem]
    rw [List.take_of_length_le (by omega), List.take_of_length_le (by omega)] at heq
    exact (decide_eq_true heq).symm

theorem u14 (q : Int) (ws : List (List UInt8)) (hl : ws.length ≤ 1000000) : PFn Tryz.prog 88 [.int .i64 q, .sl (ws.map .str)] [if codeCheck q (made ws) = 0 then codeV q (made ws) else codeV 0 [], .int .i64 (codeCheck q (made ws))] := by
  refine PFn.of_body hΓ Tryz.func88 (by kernel_rfl) rfl (AWp.of_awpD [] hΓ hmix (by kernel_rfl) ?_)
  simp +contextual -implicitDefEqProofs only [codeV, Tryz.ntmps88, Tryz.results88, Nat.reduceAdd, Nat.reduceSub, go_sem]
  refine callK_fn (u50 ws hl) (.pures rfl) ?_
  simp -implicitDefEqProofs only [go_sem]
  refine ⟨by omega, ?_⟩
  refine callK_fn (t44 q (made ws)) (.still rfl) ?_
  by_cases hc : codeCheck q (made ws) = 0
  · rw [hc]
    simp -implicitDefEqProofs only [go_sem]
  · simp -implicitDefEqProofs only [hc, go_sem]
end Go.Proofs.YtjjedaikbgfmmaaGreat
end

section
namespace Go.Proofs.YtjjedaikbgfmmaaGreat
open Go Go.AM
set_option maxRecDepth 100000
set_option linter.unusedSimpArgs false

/-- slices.Equal of words. -/
theorem e24 (a b : List (List UInt8)) (hl : a.length ≤ 9223372036854775807) : PFn Tryz.prog 24 [.sl (a.map .str), .sl (b.map .str)] [.bool (decide (a = b))] := by
  refine PFn.of_body hΓ Tryz.func24 (by kernel_rfl) rfl (AWp.of_awpD [] hΓ hmix (by kernel_rfl) ?_)
  simp -implicitDefEqProofs only [Tryz.ntmps24, Tryz.results24, Nat.reduceAdd, Nat.reduceSub, go_sem]
  by_cases he : a.length = b.length
  rotate_left
  · simp -implicitDefEqProofs only [he, go_sem]
    exact (decide_eq_false fun e : a = b => he (by rw [e])).symm
  simp -implicitDefEqProofs only [he, go_sem]
  refine AWp.loopI (fun k : Nat => ⟨mkF 26 [(0, .p (.sl (a.map .str))), (1, .p (.sl (b.map .str))), (4, .p (.bool false)), (12, .p (.int .i64 b.length)), (13, .p (.int .i64 k))], []⟩)
    (fun k => k ≤ a.length ∧ a.take k = b.take k) (fun k => a.length - k) 0 (by simp [go_sem]) (by simp) ?_
  rintro k ⟨hk, heq⟩
  refine AWp.of_awpD [(6, 9)] hΓ hmix (by kernel_rfl) ?_
  by_cases hlt : k < a.length
  · have hltb : k < b.length := by omega
    by_cases hk' : a[k] = b[k]
    · simp -implicitDefEqProofs only [hlt, hltb, getD_map_lt, ↓reduceIte, hk', go_sem]
      refine ⟨by simp only [InR]; omega, k + 1, by simp, ⟨hlt, ?_⟩, by omega⟩
      rw [List.take_succ_eq_append_getElem hlt, List.take_succ_eq_append_getElem (by omega), heq, hk']
    · simp -implicitDefEqProofs only [hlt, hltb, getD_map_lt, ↓reduceIte, hk', go_sem]
      exact (decide_eq_false fun e : a = b => hk' (by subst e; rfl)).symm
  · have hltb : ¬ k < b.length := by omega
    simp -implicitDefEqProofs only [hlt, hltb, go_sem]
    rw [List.take_of_length_le (by omega), List.take_of_length_le (by omega)] at heq
    exact (decide_eq_true heq).symm

def prefB (ws : List (List UInt8)) : Bool := aloneB (fun w x => x.isPrefixOf w) ws
def suffB (ws : List (List UInt8)) : Bool := aloneB (fun w x => x.isSuffixOf w) ws

theorem b40 (q : Int) (ws : List (List UInt8)) : PFn Tryz.prog 40 [codeV q ws] [.bool (if codeCheck q ws = 0 then prefB ws && suffB ws else false), .int .i64 (if codeCheck q ws = 0 then 0 else 1)] := by
  have e1 := t38 q ws
  have e2 := u17 q ws
  refine PFn.of_body hΓ Tryz.func40 (by kernel_rfl) rfl (AWp.of_awpD [] hΓ hmix (by kernel_rfl) ?_)
  unfold codeV at e1 e2 ⊢
  simp -implicitDefEqProofs only [Tryz.ntmps40, Tryz.results40, Nat.reduceAdd, Nat.reduceSub, go_sem]
  by_cases h : codeCheck q ws = 0
  · rw [if_pos h, if_pos h] at e1 e2 ⊢
    refine callK_fn e1 (.still rfl) ?_
    simp -implicitDefEqProofs only [go_sem]
    refine callK_fn e2 (.still rfl) ?_
    unfold prefB suffB
    cases aloneB (fun w x => x.isPrefixOf w) ws
    · simp -implicitDefEqProofs only [go_sem]
      rfl
    · simp -implicitDefEqProofs only [go_sem]
      try rfl
  · rw [if_neg h, if_neg h] at e1 e2 ⊢
    refine callK_fn e1 (.still rfl) ?_
    simp -implicitDefEqProofs only [go_sem]
    refine callK_fn e2 (.still rfl) ?_
    simp -implicitDefEqProofs only [show ¬ (1 : Int) = 0 by decide, go_sem]

theorem b42 (q : Int) (ws : List (List UInt8)) (hl : ws.length ≤ 9223372036854775807) : PFn Tryz.prog 42 [codeV q ws] [.bool (if codeCheck q ws = 0 then decide (made (revs ws) = ws) else false), .int .i64 (if codeCheck q ws = 0 then 0 else 1)] := by
  have e1 := t39 q ws
  refine PFn.of_body hΓ Tryz.func42 (by kernel_rfl) rfl (AWp.of_awpD [] hΓ hmix (by kernel_rfl) ?_)
  unfold codeV at e1 ⊢
  simp -implicitDefEqProofs only [Tryz.ntmps42, Tryz.results42, Nat.reduceAdd, Nat.reduceSub, go_sem]
  by_cases h : codeCheck q ws = 0
  · have hv := valid_of h
    have hRl : (made (revs ws)).length ≤ 9223372036854775807 := by
      have h1 := made_le (revs ws)
      have h2 : (revs ws).length = ws.length := List.length_map _
      omega
    have e24' := e24 (made (revs ws)) ws hRl
    rw [if_pos h, if_pos h] at e1 ⊢
    rw [if_pos (rev_valid hv), rev_valid hv] at e1
    refine callK_fn e1 (.still rfl) ?_
    simp -implicitDefEqProofs only [codeV, go_sem]
    refine callK_fn e24' (.still rfl) ?_
    simp -implicitDefEqProofs only [go_sem]
  · rw [if_neg h, if_neg h] at e1 ⊢
    refine callK_fn e1 (.still rfl) ?_
    simp -implicitDefEqProofs only [show ¬ (1 : Int) = 0 by decide, go_sem]

theorem b43 (q : Int) (ws : List (List UInt8)) (hl : ws.length ≤ 9223372036854775807) (hrev : PFn Tryz.prog 84 [codeV q ws] [if codeCheck q ws = 0 then codeV q (made (revs ws)) else codeV 0 [], .int .i64 (if codeCheck q ws = 0 then 0 else 1)]) :
    PFn Tryz.prog 43 [codeV q ws] [.bool (if codeCheck q ws = 0 then decide (made (revs ws) = ws) else false), .int .i64 (if codeCheck q ws = 0 then 0 else 1)] := by
  refine PFn.of_body hΓ Tryz.func43 (by kernel_rfl) rfl (AWp.of_awpD [] hΓ hmix (by kernel_rfl) ?_)
  unfold codeV at hrev ⊢
  simp -implicitDefEqProofs only [Tryz.ntmps43, Tryz.results43, Nat.reduceAdd, Nat.reduceSub, go_sem]
  by_cases h : codeCheck q ws = 0
  · have e23 := u23 q q ws (made (revs ws)) hl
    unfold codeV at e23
    rw [if_pos h, if_pos h] at hrev ⊢
    refine callK_fn hrev (.still rfl) ?_
    simp -implicitDefEqProofs only [go_sem]
    refine callK_fn e23 (.still rfl) ?_
    have e : decide (q = q ∧ ws = made (revs ws)) = decide (made (revs ws) = ws) := by
      by_cases h1 : ws = made (revs ws)
      · rw [decide_eq_true ⟨rfl, h1⟩, decide_eq_true h1.symm]
      · rw [decide_eq_false (fun h => h1 h.2), decide_eq_false (fun h => h1 h.symm)]
    rw [e]
    simp -implicitDefEqProofs only [go_sem]
  · rw [if_neg h, if_neg h] at hrev ⊢
    refine callK_fn hrev (.still rfl) ?_
    simp -implicitDefEqProofs only [show ¬ (1 : Int) = 0 by decide, go_sem]

theorem alone_iff {pr : List UInt8 → List UInt8 → Bool} {ws : List (List UInt8)} (hd : ws.Nodup) : aloneB pr ws = true ↔ ∀ x ∈ ws, ∀ y ∈ ws, pr x y = true → x = y := by
  have get : ∀ i (h : i < ws.length), ws.getD i [] = ws[i] := fun i h => by rw [List.getD_eq_getElem?_getD, List.getElem?_eq_getElem h, Option.getD_some]
  unfold aloneB aloneN aloneTo
  simp only [List.all_eq_true, List.mem_range, Bool.or_eq_true, decide_eq_true_eq, Bool.not_eq_true']
  constructor
  · intro h x hx y hy hp
    obtain ⟨i, hi, rfl⟩ := List.getElem_of_mem hx
    obtain ⟨k, hk, rfl⟩ := List.getElem_of_mem hy
    rcases h i hi k hk with e | e
    · subst e; rfl
    · rw [get i hi, get k hk, hp] at e; cases e
  · intro h i hi k hk
    by_cases e : i = k
    · exact .inl e
    · right
      rw [get i hi, get k hk]
      cases hp : pr ws[i] ws[k] with
      | false => rfl
      | true =>
        have := h _ (List.getElem_mem hi) _ (List.getElem_mem hk) hp
        have hp := List.pairwise_iff_getElem.1 (show ws.Pairwise (· ≠ ·) from hd)
        rcases Nat.lt_trichotomy i k with hik | hik | hik
        · exact absurd this (hp i k hi hk hik)
        · exact absurd hik e
        · exact absurd this.symm (hp k i hk hi hik)
theorem strict_nodup {ws : List (List UInt8)} (h : ws.Pairwise ltW) : ws.Nodup := List.Pairwise.imp (fun {a b} (hab : ltW a b) (e : a = b) => ltW_irrefl b (by rw [e] at hab; exact hab)) h
theorem mem_revs {ws : List (List UInt8)} {x : List UInt8} : x ∈ made (revs ws) ↔ x.reverse ∈ ws := by
  rw [mem_made]
  unfold revs
  rw [List.mem_map]
  constructor
  · rintro ⟨a, ha, rfl⟩; simpa using ha
  · intro h; exact ⟨_, h, by simp⟩
/-- A suffix code exactly if the reversed one is a prefix code. -/
theorem alone_rev {ws : List (List UInt8)} (hs : ws.Pairwise ltW) : prefB (made (revs ws)) = suffB ws := by
  have h1 := alone_iff (pr := fun w x => x.isPrefixOf w) (strict_nodup (made_strict (revs ws)))
  have h2 := alone_iff (pr := fun w x => x.isSuffixOf w) (strict_nodup hs)
  unfold prefB suffB
  rw [Bool.eq_iff_iff, h1, h2]
  constructor
  · intro h x hx y hy hp
    have := h x.reverse (mem_revs.2 (by simpa using hx)) y.reverse (mem_revs.2 (by simpa using hy)) (List.isPrefixOf_iff_prefix.2 (List.reverse_prefix.2 (List.isSuffixOf_iff_suffix.1 hp)))
    simpa using congrArg List.reverse this
  · intro h x hx y hy hp
    have := h x.reverse (mem_revs.1 hx) y.reverse (mem_revs.1 hy) (List.isSuffixOf_iff_suffix.2 (List.reverse_suffix.2 (List.isPrefixOf_iff_prefix.1 hp)))
    simpa using congrArg List.reverse this
theorem Valid.strict {q : Int} {ws : List (List UInt8)} (hv : Valid q ws) : ws.Pairwise ltW := List.pairwise_iff_getElem.2 fun i j hi hj hij => by
  have := hv.lt i j hij hj
  rwa [List.getD_eq_getElem?_getD, List.getD_eq_getElem?_getD, List.getElem?_eq_getElem hi, List.getElem?_eq_getElem hj, Option.getD_some, Option.getD_some] at this
theorem made_revs_revs {ws : List (List UInt8)} (hs : ws.Pairwise ltW) : made (revs (made (revs ws))) = ws :=
  strict_unique (made_strict _) hs fun x => by rw [mem_revs, mem_revs, List.reverse_reverse]

theorem b10 (q : Int) (ws : List (List UInt8)) (hws : ws.length ≤ 9223372036854775807) : PFn Tryz.prog 10 [codeV q ws] [.bool true] := by
  have eg := t11 q ws hws
  have ec := t44 q ws
  refine PFn.of_body hΓ Tryz.func10 (by kernel_rfl) rfl (AWp.seq (AWp.of_awpD [] hΓ hmix (by kernel_rfl) ?_))
  simp -implicitDefEqProofs only [Tryz.ntmps10, Tryz.results10, Nat.reduceAdd, Nat.reduceSub, codeV, go_sem]
  have awake : ∀ {Q : AV → Prop}, Q (.p (.bool true)) → True := fun _ => trivial
  unfold codeV at eg ec
  cases hg : (greatC ws || ws.any greatW)
  rotate_left
  · rw [hg] at eg
    refine AWp.seq ?_
    refine AWp.of_awpD [] hΓ hmix (by kernel_rfl) ?_
    simp -implicitDefEqProofs only [go_sem]
    refine callK_fn eg (.still rfl) ?_
    simp -implicitDefEqProofs only [go_sem]
    refine callK_fn awake_ok (.pures rfl) ?_
    simp -implicitDefEqProofs only [go_sem]
  rw [hg] at eg
  by_cases h : codeCheck q ws = 0
  rotate_left
  · refine AWp.seq ?_
    refine AWp.of_awpD [] hΓ hmix (by kernel_rfl) ?_
    simp -implicitDefEqProofs only [go_sem]
    refine callK_fn eg (.still rfl) ?_
    simp -implicitDefEqProofs only [go_sem]
    refine callK_fn ec (.still rfl) ?_
    simp -implicitDefEqProofs only [h, go_sem]
    refine callK_fn awake_ok (.pures rfl) ?_
    simp -implicitDefEqProofs only [go_sem]
  have hv := valid_of h
  have hvr := valid_of (rev_valid hv)
  have hr := rev_valid hv
  rw [h] at ec
  have e40 := b40 q ws
  have e42 := b42 q ws hws
  have e45 := t39 q ws
  have e15 := t38 q ws
  have hRl : (made (revs ws)).length ≤ 9223372036854775807 := by
    have h1 := made_le (revs ws)
    have h2 : (revs ws).length = ws.length := List.length_map _
    omega
  have e15' := t38 q (made (revs ws))
  have e42' := b42 q (made (revs ws)) hRl
  have e23 := u23 q q ws (made (revs ws)) hws
  rw [if_pos h, if_pos h] at e40 e42 e15
  rw [if_pos h, if_pos h, if_pos hr, hr] at e45
  rw [if_pos hr, if_pos hr] at e42' e15'
  rw [made_revs_revs hv.strict] at e42'
  have hp : aloneB (fun w x => x.isPrefixOf w) (made (revs ws)) = suffB ws := alone_rev hv.strict
  rw [hp] at e15'
  rw [show aloneB (fun w x => x.isPrefixOf w) ws = prefB ws from rfl] at e15
  have hsw : decide (ws = made (revs ws)) = decide (made (revs ws) = ws) := by
    by_cases h1 : ws = made (revs ws)
    · rw [decide_eq_true h1, decide_eq_true h1.symm]
    · rw [decide_eq_false h1, decide_eq_false (fun h => h1 h.symm)]
  have hsw2 : decide (q = q ∧ ws = made (revs ws)) = decide (made (revs ws) = ws) := by rw [← hsw]; simp
  rw [hsw] at e42'
  rw [hsw2] at e23
  have hkey : decide (made (revs ws) = ws) = true → prefB ws = suffB ws := fun hd => by
    have hd := of_decide_eq_true hd
    rw [← alone_rev hv.strict, hd]
  generalize made (revs ws) = R at *
  generalize decide (R = ws) = S at *
  generalize prefB ws = A at *
  generalize suffB ws = B at *
  unfold codeV at e40 e42 e45 e15 e15' e42' e23
  refine AWp.seq ?_
  refine AWp.of_awpD [] hΓ hmix (by kernel_rfl) ?_
  simp -implicitDefEqProofs only [go_sem]
  refine callK_fn eg (.still rfl) ?_
  simp -implicitDefEqProofs only [go_sem]
  refine callK_fn ec (.still rfl) ?_
  simp -implicitDefEqProofs only [go_sem]
  refine AWp.of_awpD [] hΓ hmix (by kernel_rfl) ?_
  simp -implicitDefEqProofs only [go_sem]
  refine callK_fn e40 (.still rfl) ?_
  simp -implicitDefEqProofs only [go_sem]
  refine callK_fn e42 (.still rfl) ?_
  simp -implicitDefEqProofs only [go_sem]
  refine callK_fn e45 (.still rfl) ?_
  simp -implicitDefEqProofs only [go_sem]
  refine callK_fn e15 (.still rfl) ?_
  simp -implicitDefEqProofs only [go_sem]
  refine callK_fn e15' (.still rfl) ?_
  simp -implicitDefEqProofs only [go_sem]
  refine callK_fn e42' (.still rfl) ?_
  have fin : ((A && B) == (A && B)) = true := by simp
  rcases (by cases A <;> cases B <;> cases S <;> simp at hkey ⊢ : (S = false) ∨ (S = true ∧ A = B)) with rfl | ⟨rfl, rfl⟩
  · cases A <;> cases B
    all_goals
      simp -implicitDefEqProofs only [ite_self, beq_self_eq_true, show (false == true) = false by decide, show (true == false) = false by decide, show (false != false) = false by decide, show (true != true) = false by decide, go_sem]
      refine callK_fn e23 (.still rfl) ?_
      simp -implicitDefEqProofs only [ite_self, beq_self_eq_true, show (false == true) = false by decide, show (true == false) = false by decide, show (false != false) = false by decide, show (true != true) = false by decide, go_sem]
      refine callK_fn awake_ok (.pures rfl) ?_
      simp -implicitDefEqProofs only [go_sem]
  · cases A
    all_goals
      simp -implicitDefEqProofs only [ite_self, beq_self_eq_true, show (false == true) = false by decide, show (true == false) = false by decide, show (false != false) = false by decide, show (true != true) = false by decide, go_sem]
      refine callK_fn e23 (.still rfl) ?_
      simp -implicitDefEqProofs only [ite_self, beq_self_eq_true, show (false == true) = false by decide, show (true == false) = false by decide, show (false != false) = false by decide, show (true != true) = false by decide, go_sem]
      refine callK_fn awake_ok (.pures rfl) ?_
      simp -implicitDefEqProofs only [go_sem]
end Go.Proofs.YtjjedaikbgfmmaaGreat
end

section
namespace Go.Proofs.YtjjedaikbgfmmaaGreat
open Go Go.AM
set_option maxRecDepth 100000
set_option maxHeartbeats 4000000
set_option linter.unusedSimpArgs false

theorem p126 (w x : List UInt8) : PFn Tryz.prog 126 [.str w, .str x] [.bool (x.isPrefixOf w)] := by
  refine PFn.of_body hΓ Tryz.func126 (by kernel_rfl) rfl (AWp.of_awpD [] hΓ hmix (by kernel_rfl) ?_)
  simp +contextual -implicitDefEqProofs only [Tryz.ntmps126, Tryz.results126, Nat.reduceAdd, Nat.reduceSub, go_sem]
  refine ⟨fun h => ?_, fun h => ?_⟩
  · rw [Bool.eq_iff_iff, List.isPrefixOf_iff_prefix, List.prefix_iff_eq_take, decide_eq_true_eq]; exact eq_comm
  · rw [Bool.eq_iff_iff, List.isPrefixOf_iff_prefix]
    exact ⟨fun h => by simp at h, fun h' => absurd h'.length_le (by omega)⟩

/-- Whether a word of a list begins with u. -/
theorem p87 (l : List (List UInt8)) (u : List UInt8) (hl : l.length ≤ 9223372036854775807) : PFn Tryz.prog 87 [.sl (l.map .str), .str u] [.bool (l.any fun x => u.isPrefixOf x)] := by
  refine PFn.of_body hΓ Tryz.func87 (by kernel_rfl) rfl (AWp.of_awpD [] hΓ hmix (by kernel_rfl) ?_)
  simp -implicitDefEqProofs only [Tryz.ntmps87, Tryz.results87, Nat.reduceAdd, Nat.reduceSub, go_sem]
  refine AWp.loopI (fun k : Nat => ⟨mkF 18 [(0, .p (.sl (l.map .str))), (1, .p (.str u)), (4, .p (.bool false)), (5, .p (.int .i64 k))], []⟩)
    (fun k => k ≤ l.length ∧ ((l.take k).any fun x => u.isPrefixOf x) = false) (fun k => l.length - k) 0 (by simp [go_sem]) (by simp) ?_
  rintro k ⟨hk, h0⟩
  refine AWp.of_awpD [] hΓ hmix (by kernel_rfl) ?_
  by_cases hlt : k < l.length
  · simp -implicitDefEqProofs only [hlt, getD_map_lt, ↓reduceIte, go_sem]
    refine callK_fn (p126 l[k] u) (.pures rfl) ?_
    cases hp : u.isPrefixOf l[k]
    · simp -implicitDefEqProofs only [go_sem]
      refine ⟨by simp only [InR]; omega, k + 1, by simp, ⟨hlt, ?_⟩, by omega⟩
      rw [List.take_succ_eq_append_getElem hlt, List.any_append, h0]; simp [hp]
    · simp -implicitDefEqProofs only [go_sem]
      rw [List.any_eq_true.2 ⟨_, List.getElem_mem hlt, hp⟩]
  · simp -implicitDefEqProofs only [hlt, go_sem]
    rw [List.take_of_length_le (by omega)] at h0; rw [h0]

theorem p63 (q : Int) (ws : List (List UInt8)) : PFn Tryz.prog 63 [codeV q ws] [.int .i64 (chE q ws)] := by
  have e1 := u16 q ws
  refine PFn.of_body hΓ Tryz.func63 (by kernel_rfl) rfl (AWp.of_awpD [] hΓ hmix (by kernel_rfl) ?_)
  unfold chE preP
  unfold codeV at e1 ⊢
  simp -implicitDefEqProofs only [Tryz.ntmps63, Tryz.results63, Nat.reduceAdd, Nat.reduceSub, go_sem]
  by_cases h : codeCheck q ws = 0
  · rw [if_pos h, if_pos h] at e1
    rw [if_pos h]
    refine callK_fn e1 (.still rfl) ?_
    cases hb : aloneB (fun w x => x.isPrefixOf w) ws
    · simp -implicitDefEqProofs only [go_sem]
    · simp -implicitDefEqProofs only [go_sem]
  · rw [if_neg h, if_neg h] at e1
    rw [if_neg h]
    refine callK_fn e1 (.still rfl) ?_
    simp -implicitDefEqProofs only [show ¬ (1 : Int) = 0 by decide, go_sem]

def goneL (l : List Int) (n k : Nat) : List PV := (List.range n).map fun i : Nat => .bool (decide ((i : Int) ∈ l.take k))
theorem goneL_len (l : List Int) (n k : Nat) : (goneL l n k).length = n := by simp [goneL]
theorem goneL_zero (l : List Int) (n : Nat) : goneL l n 0 = List.replicate n (.bool false) := by
  unfold goneL
  rw [List.take_zero]
  simp only [List.not_mem_nil, decide_false]
  rw [List.map_const', List.length_range]
theorem goneL_at {l : List Int} {n k i : Nat} (hi : i < n) : (goneL l n k).getD i default = .bool (decide ((i : Int) ∈ l.take k)) := by
  unfold goneL
  rw [List.getD_eq_getElem?_getD, List.getElem?_map, List.getElem?_range hi]; rfl
theorem goneL_get {l : List Int} {n k i : Nat} (h : i < (goneL l n k).length) : (goneL l n k)[i] = .bool (decide ((i : Int) ∈ l.take k)) := by simp [goneL]
theorem goneL_set {l : List Int} {n k : Nat} (hk : k < l.length) (h0 : 0 ≤ l[k]) (_ : l[k] < n) : (goneL l n k).set l[k].toNat (.bool true) = goneL l n (k + 1) := by
  refine List.ext_getElem (by simp [goneL]) fun i h2 h3 => ?_
  rw [List.getElem_set, goneL_get h3, List.take_succ_eq_append_getElem hk]
  split
  · rename_i e
    have : (i : Int) = l[k] := by omega
    rw [decide_eq_true (List.mem_append.2 (.inr (List.mem_singleton.2 this)))]
  · rename_i e
    have : ¬ (i : Int) = l[k] := by omega
    rw [goneL_get]
    congr 1
    rw [Bool.eq_iff_iff, decide_eq_true_eq, decide_eq_true_eq, List.mem_append, List.mem_singleton]
    exact ⟨.inl, fun h => h.resolve_right this⟩

theorem leftN_pair {ws : List (List UInt8)} {l : List Int} : ∀ n, n ≤ ws.length → (leftN ws l n).Sublist (ws.take n)
  | 0, _ => by simp [leftN]
  | n + 1, hn => by
    have ih := leftN_pair (ws := ws) (l := l) n (by omega)
    rw [List.take_succ_eq_append_getElem hn]
    by_cases hm : (n : Int) ∈ l
    · rw [leftN_yes hm]; exact ih.trans (List.sublist_append_left _ _)
    · rw [leftN_no hm hn]; exact List.Sublist.append ih (List.Sublist.refl _)
/-- In a prefix code each word is cut within itself. -/
theorem cut_in {q : Int} {ws : List (List UInt8)} {l : List Int} (hv : Valid q ws) (hp : prefB ws = true) {i : Nat} (hi : i < (leftN ws l ws.length).length) :
    cutN (othersN (leftN ws l ws.length) i) (leftN ws l ws.length)[i] ≤ (leftN ws l ws.length)[i].length := by
  have hsub : (leftN ws l ws.length).Sublist ws := by have := leftN_pair (ws := ws) (l := l) ws.length (Nat.le_refl _); rwa [List.take_length] at this
  have hmem : ∀ x ∈ leftN ws l ws.length, x ∈ ws := fun x hx => hsub.mem hx
  have hnd : (leftN ws l ws.length).Nodup := (strict_nodup hv.strict).sublist hsub
  have hal := (alone_iff (pr := fun w x => x.isPrefixOf w) (strict_nodup hv.strict)).1 hp
  generalize leftN ws l ws.length = L at *
  by_cases hc : cutN (othersN L i) L[i] ≤ L[i].length
  · exact hc
  exfalso
  rcases cutN_lt (os := othersN L i) (w := L[i]) (n := L[i].length) (by omega) (Nat.le_refl _) with h | h
  · exact (hv.words _ (hmem _ (List.getElem_mem hi))).1 (List.eq_nil_of_length_eq_zero h)
  · rw [List.take_length, List.any_eq_true] at h
    obtain ⟨x, hx, hpx⟩ := h
    have hxL : x ∈ L := by
      unfold othersN at hx
      rcases List.mem_append.1 hx with h1 | h1
      · exact List.mem_of_mem_take h1
      · exact List.mem_of_mem_drop h1
    have e := hal x (hmem x hxL) L[i] (hmem _ (List.getElem_mem hi)) hpx
    subst e
    unfold othersN at hx
    have hsplit : L = L.take i ++ L[i] :: L.drop (i + 1) := by rw [← List.drop_eq_getElem_cons hi, List.take_append_drop]
    rw [hsplit] at hnd
    have h2 := List.nodup_append.1 hnd
    have h3 := List.nodup_cons.1 h2.2.1
    rcases List.mem_append.1 hx with h1 | h1
    · exact h2.2.2 _ h1 _ List.mem_cons_self rfl
    · exact h3.1 h1
theorem cutL_in {os : List (List UInt8)} {w : List UInt8} (h : cutN os w ≤ w.length) : cutL os w = [w.take (cutN os w)] := by unfold cutL; rw [if_pos h]
theorem cutN_pos {os : List (List UInt8)} {w : List UInt8} (h : cutN os w ≤ w.length) : 0 < cutN os w := (cutN_at h).1

theorem codeCheck_nil {q : Int} {ws : List (List UInt8)} (hv : Valid q ws) : codeCheck q [] = 5 := by
  unfold codeCheck
  have h2 := hv.q2
  have h16 := hv.q16
  rw [if_neg (by omega), if_pos (by simp)]

theorem b44 (q : Int) (ws : List (List UInt8)) (l : List Int) (hl : l.length ≤ 9223372036854775807) :
    PFn Tryz.prog 44 [codeV q ws, .sl (l.map Kn.iV)] [pruneW q ws l, .int .i64 (pruneE q ws l)] := by
  have e63 := p63 q ws
  refine PFn.of_body hΓ Tryz.func44 (by kernel_rfl) rfl (AWp.seq (AWp.of_awpD [] hΓ hmix (by kernel_rfl) ?_))
  simp -implicitDefEqProofs only [Tryz.ntmps44, Tryz.results44, Nat.reduceAdd, Nat.reduceSub, codeV, go_sem]
  unfold codeV at e63
  refine AWp.seq ?_
  refine AWp.of_awpD [] hΓ hmix (by kernel_rfl) ?_
  simp -implicitDefEqProofs only [go_sem]
  refine callK_fn e63 (.still rfl) ?_
  by_cases hc : chE q ws = 0
  rotate_left
  · have hE : pruneE q ws l = chE q ws := by unfold pruneE; rw [if_pos hc]
    unfold pruneW
    rw [hE, if_neg hc]
    simp -implicitDefEqProofs only [hc, codeV, List.map_nil, go_sem]
  rw [hc]
  simp -implicitDefEqProofs only [go_sem]
  refine AWp.seq (AWp.of_awpD [] hΓ hmix (by kernel_rfl) ?_)
  simp -implicitDefEqProofs only [go_sem]
  have hv' : codeCheck q ws = 0 := by
    unfold chE at hc
    by_cases h : codeCheck q ws = 0
    · exact h
    · rw [if_neg h] at hc; omega
  have hp : prefB ws = true := by
    unfold chE at hc
    rw [if_pos hv'] at hc
    by_cases h : preP ws = true
    · exact h
    · rw [if_neg h] at hc; omega
  have hv := valid_of hv'
  have hlen := hv.len
  refine ⟨⟨by omega, by omega⟩, ?_⟩
  refine AWp.seq (AWp.of_awpD [] hΓ hmix (by kernel_rfl) ?_)
  simp -implicitDefEqProofs only [go_sem]
  refine AWp.loopI (fun k : Nat => ⟨mkF 114 [(1, .p (.sl (l.map Kn.iV))), (2, .ptr 0 0), (4, .ptr 1 0), (5, .p (.int .i64 0)), (7, .own 2 ws.length), (8, .p (.int .i64 k))], [.box [.p (.int .i64 q), .p (.sl (ws.map .str))], .box [.p (.int .i64 0), .full []], .row 4 1 (goneL l ws.length k) .own]⟩)
    (fun k => k ≤ l.length ∧ (l.take k).any (outR ws) = false) (fun k => l.length - k) 0 (by simp [go_sem, goneL_zero]) (by simp) ?_
  rintro k ⟨hk, h0⟩
  refine AWp.of_awpD [(8, 15)] hΓ hmix (by kernel_rfl) ?_
  by_cases hlt : k < l.length
  · have hlt' : (k : Int) < (l.length : Int) := by omega
    have hg : (l.map Kn.iV).getD k default = .int .i64 l[k] := by rw [getD_map_lt _ _ _ _ hlt]; rfl
    by_cases hx : outR ws l[k] = true
    · have hE : pruneE q ws l = 2 := by unfold pruneE; rw [if_neg (fun h => h hc), if_pos (List.any_eq_true.2 ⟨_, List.getElem_mem hlt, hx⟩)]
      unfold pruneW
      rw [hE, if_neg (by decide)]
      unfold outR at hx
      simp only [Bool.or_eq_true, decide_eq_true_eq] at hx
      by_cases hx0 : l[k] < 0
      · simp -implicitDefEqProofs only [hlt', hg, hx0, Int.toNat_natCast, codeV, List.map_nil, go_sem]
      · have hx1 := hx.resolve_left hx0
        simp -implicitDefEqProofs only [hlt', hg, hx0, hx1, Int.toNat_natCast, codeV, List.map_nil, go_sem]
    · have hx' := hx
      unfold outR at hx'
      simp only [Bool.or_eq_true, decide_eq_true_eq, not_or, Int.not_lt, Int.not_le] at hx'
      have hx0 : ¬ l[k] < 0 := by omega
      have hx1 : ¬ (ws.length : Int) ≤ l[k] := by omega
      simp -implicitDefEqProofs only [hlt', hg, hx0, hx1, Int.toNat_natCast, go_sem]
      refine ⟨⟨by omega, by omega⟩, ⟨by rw [goneL_len]; omega, rfl⟩, by simp only [InR]; omega, k + 1, ⟨by omega, .inl (goneL_set hlt (by omega) (by omega)).symm⟩, ⟨hlt, ?_⟩, by omega⟩
      rw [List.take_succ_eq_append_getElem hlt, List.any_append, h0]
      simp [eq_false_of_ne_true hx]
  have hlt' : ¬ (k : Int) < (l.length : Int) := by omega
  have hk' : k = l.length := by omega
  subst hk'
  rw [List.take_length] at h0
  simp -implicitDefEqProofs only [Int.lt_irrefl, Nat.lt_irrefl, go_sem]
  refine AWp.seq (AWp.of_awpD [] hΓ hmix (by kernel_rfl) ?_)
  simp -implicitDefEqProofs only [go_sem]
  refine AWp.adopt (l := []) 9 9 1 (by rfl) (by simp) ?_
  simp -implicitDefEqProofs only [go_sem]
  refine AWp.seq (AWp.of_awpD [] hΓ hmix (by kernel_rfl) ?_)
  simp -implicitDefEqProofs only [go_sem]
  refine AWp.loopI (fun i : Nat => ⟨mkF 114 [(2, .ptr 0 0), (4, .ptr 1 0), (5, .p (.int .i64 0)), (7, .own 2 ws.length), (9, .own 3 (leftN ws l i).length), (10, .p (.int .i64 i))], [.box [.p (.int .i64 q), .p (.sl (ws.map .str))], .box [.p (.int .i64 0), .full []], .row 4 1 (goneL l ws.length l.length) .own, .row 9 1 ((leftN ws l i).map .str) .lax]⟩)
    (fun i => i ≤ ws.length) (fun i => ws.length - i) 0 (by simp [go_sem, leftN]) (by omega) ?_
  intro i hi
  refine AWp.of_awpD [] hΓ hmix (by kernel_rfl) ?_
  by_cases hlt : i < ws.length
  · have hlt' : (i : Int) < (ws.length : Int) := by omega
    have hg : (ws.map PV.str).getD i default = .str ws[i] := getD_map_lt _ _ _ _ hlt
    have hb := goneL_at (l := l) (n := ws.length) (k := l.length) hlt
    have hgl := goneL_len l ws.length l.length
    rw [List.take_length] at hb
    by_cases hm : (i : Int) ∈ l
    · rw [decide_eq_true hm] at hb
      simp -implicitDefEqProofs only [hlt', hg, hb, hgl, Int.toNat_natCast, go_sem]
      exact ⟨hlt, by simp only [InR]; omega, i + 1, by rw [leftN_yes hm]; simp, hlt, by omega⟩
    · rw [decide_eq_false hm] at hb
      have hL := leftN_len ws l i
      have hs1 : sizeOK [PV.str ws[i]] 1 := by simp [sizeOK, PV.cells]
      have ho1 : oneOK [PV.str ws[i]] := by simp [oneOK, PV.cells, PV.isAgg]
      simp -implicitDefEqProofs only [hlt', hg, hb, hgl, Int.toNat_natCast, go_sem]
      refine ⟨hlt, ⟨hs1, by omega⟩, ⟨hs1, ho1⟩, ⟨by simp, by omega, by omega⟩, by simp only [InR]; omega, i + 1, ⟨⟨by rw [leftN_no hm hlt]; simp, by simp⟩, .inr ?_⟩, hlt, by omega⟩
      rw [leftN_no hm hlt]
      simp
  have hlt' : ¬ (i : Int) < (ws.length : Int) := by omega
  have hiw : i = ws.length := by omega
  subst hiw
  simp -implicitDefEqProofs only [Int.lt_irrefl, Nat.lt_irrefl, go_sem]
  have hL := leftN_len ws l ws.length
  have hLm := leftN_mem (ws := ws) (l := l) (Nat.le_refl _)
  have hcut := fun i hi => cut_in (l := l) (i := i) hv hp hi
  generalize hLe : leftN ws l ws.length = L at *
  refine AWp.freeze 3 rfl ?_
  refine AWp.seq (AWp.of_awpD [] hΓ hmix (by kernel_rfl) ?_)
  simp -implicitDefEqProofs only [Frozen, List.length_map, go_sem]
  refine AWp.adopt (l := []) 11 9 1 (by rfl) (by simp) ?_
  simp -implicitDefEqProofs only [go_sem]
  refine AWp.seq (AWp.of_awpD [] hΓ hmix (by kernel_rfl) ?_)
  simp -implicitDefEqProofs only [go_sem]
  refine AWp.loopJ (fun i : Nat => ⟨mkF 114 [(2, .ptr 0 0), (4, .ptr 1 0), (5, .p (.int .i64 0)), (9, .p (.sl (L.map .str))), (11, .own 4 (pruneN L i).length), (12, .p (.int .i64 i))], [.box [.p (.int .i64 q), .p (.sl (ws.map .str))], .box [.p (.int .i64 0), .full []], .row 4 1 (goneL l ws.length l.length) .own, .dead, .row 9 1 ((pruneN L i).map .str) .lax]⟩)
    (fun i => i ≤ L.length) (fun i => L.length - i) 0 (fun x => by simp [BelowAll, mkF, AV.blw, AV.blw.blwL, blwH, AObj.blw]) (by simp [go_sem, pruneN]) (by omega) ?_
  intro i hi
  refine AWp.seq (AWp.of_awpD [] hΓ hmix (by kernel_rfl) ?_)
  by_cases hlt : i < L.length
  · have hlt' : (i : Int) < (L.length : Int) := by omega
    have hg : (L.map PV.str).getD i default = .str L[i] := getD_map_lt _ _ _ _ hlt
    have hnat : ((i : Int) + 1).toNat = i + 1 := by omega
    simp -implicitDefEqProofs only [hlt', List.length_map, go_sem]
    refine AWp.seq (AWp.block ?_)
    refine AWp.seq ?_
    refine AWp.planL (.q 0 (.q 1 (.q 2 (.q 3 (.q 5 (.q 6 (.q 7 (.q 8 (.e 4 (.s 5 (.s 6 (.s 7 (.s 8 (.e 9 (.q 10 .fin) .nil))))) .nil))))))))) hΓ hmix (by kernel_rfl) ?_
    simp -implicitDefEqProofs only [List.length_map, hnat, Int.toNat_natCast, ← List.map_take, ← List.map_drop, go_sem]
    have hT : (L.take i).length ≤ 64 := by rw [List.length_take]; omega
    have hD : (L.drop (i + 1)).length ≤ 64 := by rw [List.length_drop]; omega
    refine ⟨⟨size_str [], by omega⟩, size_str _, by omega, by simp only [InR]; omega, size_str _, ⟨by omega, by omega⟩, ⟨size_str _, one_str _⟩, ⟨size_str [], by omega, by omega⟩, by simp only [InR]; omega, ⟨size_str _, by omega, by omega⟩, ⟨size_str _, one_str _⟩, ⟨?_, by simp, by omega, by omega⟩, ?_⟩
    · split <;> simp
    · refine AWp.seq (AWp.of_awpD [] hΓ hmix (by kernel_rfl) ?_)
      simp -implicitDefEqProofs only [go_sem]
      have hwl : L[i].length ≤ 100000 := by have := (hv.words _ (hLm _ (List.getElem_mem hlt))).2.1; omega
      have hosl : (othersN L i).length ≤ 9223372036854775807 := by simp [othersN]; omega
      have hos1 : (othersN L i).map PV.str = (L.take i).map PV.str ++ (L.drop (i + 1)).map PV.str := by unfold othersN; rw [List.map_append]
      have hos2 : (othersN L i).length = (L.take i).length + (L.drop (i + 1)).length := by unfold othersN; rw [List.length_append]
      have hcle := hcut i hlt
      have hcat := @cutN_at (othersN L i) L[i] hcle
      have hclt := @cutN_lt (othersN L i) L[i]
      have hps := pruneN_succ hlt
      rw [cutL_in hcle] at hps
      have hpl := pruneN_len L i
      rw [← hos1, ← hos2]
      have hrk : ∃ rk, (if ((L.drop (i + 1)).map PV.str).isEmpty = true then (if ((L.take i).map PV.str).isEmpty = true then RK.lax else RK.own) else RK.own) = rk ∧ (rk = .lax ∨ rk = .own) := ⟨_, rfl, by split <;> (try split) <;> simp⟩
      obtain ⟨rk, hrk, hrk2⟩ := hrk
      rw [hrk]
      generalize hwe : L[i] = w at *
      generalize othersN L i = os at *
      generalize hNe : cutN os w = N at *
      refine AWp.seq (AWp.block ?_)
      refine AWp.loopI (fun n : Nat => ⟨mkF 114 [(2, .ptr 0 0), (4, .ptr 1 0), (5, .p (.int .i64 0)), (9, .p (.sl (L.map .str))), (11, .own 4 (pruneN L i).length), (12, .p (.int .i64 i)), (13, .own 5 os.length), (14, .p (.int .i64 n))], [.box [.p (.int .i64 q), .p (.sl (ws.map .str))], .box [.p (.int .i64 0), .full []], .row 4 1 (goneL l ws.length l.length) .own, .dead, .row 9 1 ((pruneN L i).map .str) .lax, .row 9 1 (os.map .str) .lax]⟩)
        (fun n => 1 ≤ n ∧ n ≤ N) (fun n => N - n) 1 (by rcases hrk2 with rfl | rfl <;> simp [go_sem, weakH_self]) ⟨Nat.le_refl _, hcat.1⟩ ?_
      rintro n ⟨hn1, hn2⟩
      refine AWp.of_awpD [] hΓ hmix (by kernel_rfl) ?_
      have hnw : (n : Int) ≤ (w.length : Int) := by omega
      simp -implicitDefEqProofs only [hlt, hg, Int.toNat_natCast, go_sem]
      refine ⟨by omega, callK_fn (p87 os (w.take n) hosl) (.owned rfl rfl) ?_⟩
      by_cases hn : n = N
      · subst hn
        rw [hcat.2]
        simp -implicitDefEqProofs only [go_sem]
        refine AWp.of_awpD [] hΓ hmix (by kernel_rfl) ?_
        simp -implicitDefEqProofs only [hlt, hg, Int.toNat_natCast, go_sem]
        refine ⟨by omega, ⟨size_str [_], by omega⟩, ⟨size_str [_], one_str [_]⟩, ⟨by simp, by omega, by omega⟩, ?_⟩
        refine AWp.of_awpD [] hΓ hmix (by kernel_rfl) ?_
        simp -implicitDefEqProofs only [List.set_cons_zero, List.set_cons_succ, go_sem]
        refine ⟨by simp only [InR]; omega, i + 1, ⟨by simp [hps], ?_⟩, hlt, by omega⟩
        rw [hps]
        simp
      · have hnlt : n < N := by omega
        rw [(hclt hnlt (by omega)).resolve_left (by omega)]
        simp -implicitDefEqProofs only [go_sem]
        exact ⟨by simp only [InR]; omega, n + 1, by simp, ⟨by omega, by omega⟩, by omega⟩
  have hlt' : ¬ (i : Int) < (L.length : Int) := by omega
  have hiL : i = L.length := by omega
  subst hiL
  simp -implicitDefEqProofs only [Int.lt_irrefl, Nat.lt_irrefl, List.length_map, go_sem]
  refine AWp.freeze 4 rfl ?_
  have e65 := u14 q (pruneN L L.length) (by have := pruneN_len L L.length; omega)
  refine AWp.of_awpD [] hΓ hmix (by kernel_rfl) ?_
  simp -implicitDefEqProofs only [Frozen, AV.thaw, AObj.thaw, AV.thaw.thawL, List.map_cons, List.map_nil, List.set_cons_zero, List.set_cons_succ, go_sem]
  have hE : pruneE q ws l = codeCheck q (made (pruneN L L.length)) := by
    by_cases h00 : L.length = 0
    · have : pruneN L L.length = [] := by rw [h00]; rfl
      unfold pruneE; rw [if_neg (fun h => h hc), if_neg (by rw [h0]; decide), hLe, if_pos h00, this]
      rw [made_nil]
      exact (codeCheck_nil hv).symm
    · unfold pruneE; rw [if_neg (fun h => h hc), if_neg (by rw [h0]; decide), hLe, if_neg h00]
  unfold pruneW
  rw [hE, hLe]
  by_cases hm : codeCheck q (made (pruneN L L.length)) = 0
  · rw [if_pos hm] at e65 ⊢
    unfold codeV at e65 ⊢
    refine callK_fn e65 (.pures rfl) ?_
    simp -implicitDefEqProofs only [codeV, go_sem]
  · rw [if_neg hm] at e65 ⊢
    unfold codeV at e65 ⊢
    refine callK_fn e65 (.pures rfl) ?_
    simp -implicitDefEqProofs only [codeV, List.map_nil, go_sem]
end Go.Proofs.YtjjedaikbgfmmaaGreat
end

section
namespace Go.Proofs.YtjjedaikbgfmmaaGreat
open Go Go.AM Go.RowKit
set_option maxRecDepth 100000
set_option maxHeartbeats 4000000
set_option linter.unusedSimpArgs false

theorem r64 (q : Nat) (ws : List (List UInt8)) (hv : Valid q ws) : PFn Tryz.prog 64 [codeV q ws] [.sl ((missing q ws).map .str)] := by
  have hlen := hv.len
  have hq16 := hv.q16
  have hws := hv.words
  refine PFn.of_body hΓ Tryz.func64 (by kernel_rfl) rfl (AWp.seq (AWp.of_awpD [] hΓ hmix (by kernel_rfl) ?_))
  simp -implicitDefEqProofs only [Tryz.ntmps64, Tryz.results64, Nat.reduceAdd, Nat.reduceSub, codeV, go_sem]
  refine AWp.seq (AWp.of_awpD [] hΓ hmix (by kernel_rfl) ?_)
  simp -implicitDefEqProofs only [go_sem]
  refine AWp.adopt (l := []) 3 9 1 (by rfl) (by simp) ?_
  simp -implicitDefEqProofs only [go_sem]
  refine AWp.seq (AWp.of_awpD [] hΓ hmix (by kernel_rfl) ?_)
  simp -implicitDefEqProofs only [go_sem]
  refine AWp.loopI (fun i : Nat => ⟨mkF 52 [(1, .ptr 0 0), (3, .own 1 (missL q ws i).length), (4, .p (.int .i64 i))], [.box [.p (.int .i64 q), .p (.sl (ws.map .str))], .row 9 1 ((missL q ws i).map .str) .lax]⟩)
    (fun i => i ≤ ws.length) (fun i => ws.length - i) 0 (by simp [go_sem, missL]) (by omega) ?_
  intro i hi
  refine AWp.of_awpD [] hΓ hmix (by kernel_rfl) ?_
  by_cases hlt : i < ws.length
  · have hg : (ws.map PV.str).getD i default = .str ws[i] := getD_map_lt _ _ _ _ hlt
    obtain ⟨hw0, hw32, hwc⟩ := hws ws[i] (List.getElem_mem hlt)
    have hlL := missL_len (q := q) (ws := ws) (by omega) (fun x hx => (hws x hx).2.1) i (by omega)
    have hs0 := missL_succ (q := q) hlt
    simp -implicitDefEqProofs only [hlt, hg, Int.toNat_natCast, go_sem]
    generalize hwe : ws[i] = w at *
    refine AWp.loopI (fun n : Nat => ⟨mkF 52 [(1, .ptr 0 0), (3, .own 1 (missL q ws i ++ missW q ws w n).length), (4, .p (.int .i64 i)), (5, .p (.str w)), (6, .p (.int .i64 n))], [.box [.p (.int .i64 q), .p (.sl (ws.map .str))], .row 9 1 ((missL q ws i ++ missW q ws w n).map .str) .lax]⟩)
      (fun n => n ≤ w.length) (fun n => w.length - n) 0 (by simp [go_sem, missW]) (by omega) ?_
    intro n hn
    refine AWp.of_awpD [] hΓ hmix (by kernel_rfl) ?_
    by_cases hnlt : n < w.length
    · have hpl : (w.take n).length ≤ 32 := by rw [List.length_take]; omega
      have hmw := missW_len q ws w n
      have hmw2 : q * n ≤ 16 * 32 := Nat.mul_le_mul (by omega) (by omega)
      have hnext : missW q ws w (n + 1) = missW q ws w n ++ missP ws (w.take n) q := missW_succ q ws w n
      simp -implicitDefEqProofs only [hnlt, go_sem]
      generalize hpe : w.take n = p at *
      generalize hoe : missL q ws i ++ missW q ws w n = out at *
      have hol : out.length ≤ 512 * 64 + 512 := by rw [← hoe, List.length_append]; omega
      refine AWp.loopI (fun a : Nat => ⟨mkF 52 [(1, .ptr 0 0), (3, .own 1 (out ++ missP ws p a).length), (4, .p (.int .i64 i)), (5, .p (.str w)), (6, .p (.int .i64 n)), (7, .p (.int .i64 a))], [.box [.p (.int .i64 q), .p (.sl (ws.map .str))], .row 9 1 ((out ++ missP ws p a).map .str) .lax]⟩)
        (fun a => a ≤ q) (fun a => q - a) 0 (by simp [go_sem, missP]) (by omega) ?_
      intro a ha
      refine AWp.of_awpD [(12, 9)] hΓ hmix (by kernel_rfl) ?_
      have hPl := missP_len ws p a
      by_cases hlta : a < q
      · have h1 : ((a : Int) + 1).toNat - a = 1 := by omega
        have h16 : a < 16 := by omega
        have e87 := p87 ws (p ++ [letA a]) (by omega)
        have hsuc := missP_succ ws p a
        have hs1 : sizeOK [PV.str (p ++ [letA a])] 1 := by simp [sizeOK, PV.cells]
        have ho1 : oneOK [PV.str (p ++ [letA a])] := by simp [oneOK, PV.cells, PV.isAgg]
        simp -implicitDefEqProofs only [hlta, Int.toNat_natCast, h1, sub_letters h16, hpe, go_sem]
        refine ⟨by omega, by simp only [InR]; omega, ⟨by omega, by omega⟩, by omega, callK_fn e87 (.pures rfl) ?_⟩
        cases hb : ws.any fun x => (p ++ [letA a]).isPrefixOf x
        · have hm : missA ws p a = [p ++ [letA a]] := by unfold missA begB; rw [hb]; rfl
          rw [hm] at hsuc
          simp -implicitDefEqProofs only [go_sem]
          refine ⟨⟨hs1, by omega⟩, ⟨hs1, ho1⟩, ⟨.inl (by omega), by rw [List.length_append]; omega, by rw [List.length_append]; omega⟩, by simp only [InR]; omega, a + 1, ?_, by omega, by omega⟩
          rw [hsuc, ← List.append_assoc]
          simp
          omega
        · have hm : missA ws p a = [] := by unfold missA begB; rw [hb]; rfl
          rw [hm, List.append_nil] at hsuc
          simp -implicitDefEqProofs only [go_sem]
          exact ⟨by simp only [InR]; omega, a + 1, by rw [hsuc]; simp, by omega, by omega⟩
      · have haq : a = q := by omega
        subst haq
        simp -implicitDefEqProofs only [Int.lt_irrefl, Nat.lt_irrefl, go_sem]
        refine ⟨by simp only [InR]; omega, n + 1, ?_, by omega, by omega⟩
        rw [hnext, ← List.append_assoc, hoe]
        simp
    · have hnw : n = w.length := by omega
      subst hnw
      simp -implicitDefEqProofs only [Int.lt_irrefl, Nat.lt_irrefl, go_sem]
      exact ⟨by simp only [InR]; omega, i + 1, by rw [hs0]; simp, hlt, by omega⟩
  have hiw : i = ws.length := by omega
  subst hiw
  simp -implicitDefEqProofs only [Int.lt_irrefl, Nat.lt_irrefl, go_sem]
  have hlL := missL_len (q := q) (ws := ws) (by omega) (fun x hx => (hws x hx).2.1) ws.length (Nat.le_refl _)
  unfold missing
  generalize missL q ws ws.length = out at *
  refine AWp.freeze 1 rfl ?_
  refine AWp.of_awpD [] hΓ hmix (by kernel_rfl) ?_
  simp -implicitDefEqProofs only [Frozen, go_sem]
  refine callK_fn (u50 out (by omega)) (.pures rfl) ?_
  simp -implicitDefEqProofs only [go_sem]

/-- What is missing of a code, and why not. -/
def missV (q : Int) (ws : List (List UInt8)) : List (List UInt8) := if chE q ws = 0 then missing q.toNat ws else []

theorem chE_valid {q : Int} {ws : List (List UInt8)} (hc : chE q ws = 0) : Valid q ws ∧ prefB ws = true := by
  have hv' : codeCheck q ws = 0 := by
    unfold chE at hc
    by_cases h : codeCheck q ws = 0
    · exact h
    · rw [if_neg h] at hc; omega
  refine ⟨valid_of hv', ?_⟩
  unfold chE at hc
  rw [if_pos hv'] at hc
  by_cases h : preP ws = true
  · exact h
  · rw [if_neg h] at hc; omega

theorem cm18 (q : Int) (ws : List (List UInt8)) : PFn Tryz.prog 18 [codeV q ws] [.sl ((missV q ws).map .str), .int .i64 (chE q ws)] := by
  have e61 := cm61 q ws
  refine PFn.of_body hΓ Tryz.func18 (by kernel_rfl) rfl (AWp.of_awpD [] hΓ hmix (by kernel_rfl) ?_)
  simp -implicitDefEqProofs only [Tryz.ntmps18, Tryz.results18, Nat.reduceAdd, Nat.reduceSub, codeV, go_sem]
  unfold codeV at e61
  refine callK_fn e61 (.still rfl) ?_
  unfold missV
  by_cases hc : chE q ws = 0
  · obtain ⟨hv, _⟩ := chE_valid hc
    have hq : ((q.toNat : Nat) : Int) = q := by have := hv.q2; omega
    have e62 := cm62 q.toNat ws (by rw [hq]; exact hv)
    rw [hq] at e62
    unfold codeV at e62
    rw [hc]
    simp -implicitDefEqProofs only [go_sem]
    refine callK_fn e62 (.still rfl) ?_
    simp -implicitDefEqProofs only [go_sem]
  · simp -implicitDefEqProofs only [hc, List.map_nil, go_sem]

theorem r19 (q : Int) (ws : List (List UInt8)) : PFn Tryz.prog 19 [codeV q ws] [.sl ((missV q ws).map .str), .int .i64 (chE q ws)] := by
  have e63 := p63 q ws
  refine PFn.of_body hΓ Tryz.func19 (by kernel_rfl) rfl (AWp.of_awpD [] hΓ hmix (by kernel_rfl) ?_)
  simp -implicitDefEqProofs only [Tryz.ntmps19, Tryz.results19, Nat.reduceAdd, Nat.reduceSub, codeV, go_sem]
  unfold codeV at e63
  refine callK_fn e63 (.still rfl) ?_
  unfold missV
  by_cases hc : chE q ws = 0
  · obtain ⟨hv, _⟩ := chE_valid hc
    have hq : ((q.toNat : Nat) : Int) = q := by have := hv.q2; omega
    have e64 := r64 q.toNat ws (by rw [hq]; exact hv)
    rw [hq] at e64
    unfold codeV at e64
    rw [hc]
    simp -implicitDefEqProofs only [go_sem]
    refine callK_fn e64 (.still rfl) ?_
    simp -implicitDefEqProofs only [go_sem]
  · simp -implicitDefEqProofs only [hc, List.map_nil, go_sem]
end Go.Proofs.YtjjedaikbgfmmaaGreat
end

section
namespace Go.Proofs.YtjjedaikbgfmmaaGreat.Kn
open Go Go.AM
set_option maxRecDepth 100000
set_option linter.unusedSimpArgs false

/-- A letter. -/
def ltr (a : Nat) : UInt8 := L16.getD a 0
theorem ltr_inj {a b : Nat} (ha : a < 16) (hb : b < 16) (h : ltr a = ltr b) : a = b := by
  have key : ∀ a : Fin 16, ∀ b : Fin 16, L16.getD a.val 0 = L16.getD b.val 0 → a = b := by decide
  have := key ⟨a, ha⟩ ⟨b, hb⟩ h
  exact congrArg Fin.val this
/-- A word over the first q letters. -/
def Alph (q : Nat) (w : List UInt8) : Prop := ∀ b ∈ w, ∃ a, a < q ∧ b = ltr a

/-- How much a word takes. -/
def wtN (q : Nat) (w : List UInt8) : Nat := q ^ (32 - w.length)
/-- What the words that begin with p take. -/
def taken (q : Nat) (p : List UInt8) : List (List UInt8) → Nat
  | [] => 0
  | w :: ws => (if p.isPrefixOf w then wtN q w else 0) + taken q p ws

theorem pre_iff {p w : List UInt8} : p.isPrefixOf w = true ↔ ∃ t, w = p ++ t := by
  rw [List.isPrefixOf_iff_prefix]
  exact ⟨fun ⟨t, h⟩ => ⟨t, h.symm⟩, fun ⟨t, h⟩ => ⟨t, h.symm⟩⟩
theorem pre_snoc {p w : List UInt8} {b : UInt8} (h : (p ++ [b]).isPrefixOf w = true) : p.isPrefixOf w = true := by
  obtain ⟨t, ht⟩ := pre_iff.1 h
  exact pre_iff.2 ⟨[b] ++ t, by rw [ht, List.append_assoc]⟩
theorem pre_uniq {p w : List UInt8} {b c : UInt8} (h1 : (p ++ [b]).isPrefixOf w = true) (h2 : (p ++ [c]).isPrefixOf w = true) : b = c := by
  obtain ⟨t, ht⟩ := pre_iff.1 h1
  obtain ⟨s, hs⟩ := pre_iff.1 h2
  rw [ht, List.append_assoc, List.append_assoc] at hs
  have := List.append_cancel_left hs
  simp at this
  exact this.1
theorem pre_more {p w : List UInt8} (h : p.isPrefixOf w = true) (hne : w ≠ p) : ∃ b, b ∈ w ∧ (p ++ [b]).isPrefixOf w = true := by
  obtain ⟨t, ht⟩ := pre_iff.1 h
  cases t with
  | nil => exact absurd (by simpa using ht) hne
  | cons b t => exact ⟨b, by rw [ht]; simp, pre_iff.2 ⟨t, by rw [ht]; simp⟩⟩

theorem sumN_add (F G : Nat → Nat) : ∀ n, sumN (fun j => F j + G j) n = sumN F n + sumN G n
  | 0 => rfl
  | n + 1 => by
    have ih := sumN_add F G n
    have e1 : sumN (fun j => F j + G j) (n + 1) = sumN (fun j => F j + G j) n + (F n + G n) := rfl
    have e2 : sumN F (n + 1) = sumN F n + F n := rfl
    have e3 : sumN G (n + 1) = sumN G n + G n := rfl
    omega
theorem sumN_one {F : Nat → Nat} {k c : Nat} : ∀ {n : Nat}, k < n → F k = c → (∀ j, j < n → j ≠ k → F j = 0) → sumN F n = c
  | 0, h, _, _ => by omega
  | n + 1, h, hc, h0 => by
    have e : sumN F (n + 1) = sumN F n + F n := rfl
    by_cases hk : k = n
    · subst hk
      rw [e, sumN_zero (fun j hj => h0 j (by omega) (by omega)), hc, Nat.zero_add]
    · rw [e, sumN_one (n := n) (by omega) hc (fun j hj hne => h0 j (by omega) hne), h0 n (by omega) (fun h => hk h.symm), Nat.add_zero]
theorem sumN_le {F : Nat → Nat} {B : Nat} : ∀ {n : Nat}, (∀ j, j < n → F j ≤ B) → sumN F n ≤ n * B
  | 0, _ => Nat.zero_le _
  | n + 1, h => by
    have e : sumN F (n + 1) = sumN F n + F n := rfl
    have := sumN_le (n := n) (fun j hj => h j (by omega))
    have := h n (by omega)
    rw [e, Nat.succ_mul]; omega
theorem sumN_full {F : Nat → Nat} {B : Nat} : ∀ {n : Nat}, (∀ j, j < n → F j ≤ B) → sumN F n = n * B → ∀ j, j < n → F j = B
  | 0, _, _ => fun j hj => by omega
  | n + 1, h, hs => by
    have e : sumN F (n + 1) = sumN F n + F n := rfl
    have h1 := sumN_le (n := n) (fun j hj => h j (by omega))
    have h2 := h n (by omega)
    rw [e, Nat.succ_mul] at hs
    have ih := sumN_full (n := n) (fun j hj => h j (by omega)) (by omega)
    intro j hj
    by_cases hjn : j = n
    · subst hjn; omega
    · exact ih j (by omega)
theorem sumN_const {F : Nat → Nat} {B : Nat} : ∀ {n : Nat}, (∀ j, j < n → F j = B) → sumN F n = n * B
  | 0, _ => by simp [sumN]
  | n + 1, h => by
    have e : sumN F (n + 1) = sumN F n + F n := rfl
    rw [e, sumN_const (n := n) (fun j hj => h j (by omega)), h n (by omega), Nat.succ_mul]

/-- A word that is none of the code: what begins with it goes on with a letter. -/
theorem taken_split {q : Nat} (hq : q ≤ 16) (p : List UInt8) : ∀ {ws : List (List UInt8)}, (∀ w ∈ ws, Alph q w) → (∀ w ∈ ws, w ≠ p) → taken q p ws = sumN (fun a => taken q (p ++ [ltr a]) ws) q
  | [], _, _ => by
    symm
    exact sumN_zero fun _ _ => rfl
  | w :: ws, hA, hne => by
    have ih := taken_split hq p (ws := ws) (fun x hx => hA x (by simp [hx])) (fun x hx => hne x (by simp [hx]))
    show (if p.isPrefixOf w then wtN q w else 0) + taken q p ws = sumN (fun a => (if (p ++ [ltr a]).isPrefixOf w then wtN q w else 0) + taken q (p ++ [ltr a]) ws) q
    rw [sumN_add, ← ih]
    congr 1
    by_cases hp : p.isPrefixOf w = true
    · obtain ⟨b, hb, hbw⟩ := pre_more hp (hne w (by simp))
      obtain ⟨a, ha, rfl⟩ := hA w (by simp) b hb
      rw [if_pos hp]
      symm
      refine sumN_one ha (by simp only [hbw, if_true]) fun j hj hja => ?_
      rw [if_neg]
      intro hjw
      exact hja (ltr_inj (by omega) (by omega) (pre_uniq hjw hbw))
    · rw [if_neg hp]
      symm
      refine sumN_zero fun j hj => ?_
      rw [if_neg]
      exact fun h => hp (pre_snoc h)

/-- A prefix code, as a list. -/
structure PCode (q : Nat) (ws : List (List UInt8)) : Prop where
  q0 : 0 < q
  q16 : q ≤ 16
  nodup : ws.Nodup
  free : ∀ x ∈ ws, ∀ y ∈ ws, y.isPrefixOf x = true → x = y
  alph : ∀ w ∈ ws, Alph q w
  short : ∀ w ∈ ws, w.length ≤ 32

theorem taken_none {q : Nat} {p : List UInt8} : ∀ {ws : List (List UInt8)}, (∀ w ∈ ws, ¬ p.isPrefixOf w = true) → taken q p ws = 0
  | [], _ => rfl
  | w :: ws, h => by
    show (if p.isPrefixOf w then wtN q w else 0) + taken q p ws = 0
    rw [if_neg (h w (by simp)), taken_none (fun x hx => h x (by simp [hx]))]
theorem taken_word {q : Nat} {p : List UInt8} : ∀ {ws : List (List UInt8)}, p ∈ ws → ws.Nodup → (∀ x ∈ ws, p.isPrefixOf x = true → x = p) → taken q p ws = wtN q p
  | w :: ws, hp, hd, hf => by
    show (if p.isPrefixOf w then wtN q w else 0) + taken q p ws = _
    have hd' := List.nodup_cons.1 hd
    by_cases hw : p.isPrefixOf w = true
    · have e := hf w (by simp) hw
      subst e
      rw [if_pos hw, taken_none (fun x hx h => ?_), Nat.add_zero]
      have := hf x (by simp [hx]) h
      subst this
      exact hd'.1 hx
    · rw [if_neg hw, Nat.zero_add]
      have hne : p ≠ w := fun e => hw (by rw [e]; exact List.isPrefixOf_iff_prefix.2 (List.prefix_refl _))
      exact taken_word (by simpa [hne] using hp) hd'.2 (fun x hx => hf x (by simp [hx]))
theorem taken_in {q : Nat} (hq : 0 < q) {p w : List UInt8} : ∀ {ws : List (List UInt8)}, w ∈ ws → p.isPrefixOf w = true → 0 < taken q p ws
  | x :: ws, hw, hp => by
    show 0 < (if p.isPrefixOf x then wtN q x else 0) + taken q p ws
    rcases List.mem_cons.1 hw with rfl | hw
    · rw [if_pos hp]
      have : 0 < wtN q w := Nat.pow_pos hq
      omega
    · have := taken_in hq hw hp
      omega
theorem taken_some {q : Nat} {p : List UInt8} {ws : List (List UInt8)} (h : taken q p ws ≠ 0) : ∃ w ∈ ws, p.isPrefixOf w = true := by
  by_cases hx : ∃ w ∈ ws, p.isPrefixOf w = true
  · exact hx
  · exact absurd (taken_none fun w hw hp => hx ⟨w, hw, hp⟩) h

theorem PCode.word {q : Nat} {ws : List (List UInt8)} (h : PCode q ws) {p : List UInt8} (hp : p ∈ ws) : taken q p ws = wtN q p :=
  taken_word hp h.nodup fun x hx hpx => h.free x hx p hp hpx

theorem PCode.le {q : Nat} {ws : List (List UInt8)} (h : PCode q ws) : ∀ (d : Nat) (p : List UInt8), p.length + d = 32 → taken q p ws ≤ q ^ d
  | d, p, hl => by
    by_cases hp : p ∈ ws
    · rw [h.word hp]
      unfold wtN
      rw [show 32 - p.length = d by omega]
      exact Nat.le_refl _
    · have hne : ∀ w ∈ ws, w ≠ p := fun w hw e => hp (e ▸ hw)
      cases d with
      | zero =>
        rw [taken_none fun w hw hpw => ?_]
        · exact Nat.zero_le _
        · obtain ⟨b, _, hb⟩ := pre_more hpw (hne w hw)
          have h1 := (List.isPrefixOf_iff_prefix.1 hb).length_le
          have h2 := h.short w hw
          simp at h1
          omega
      | succ d =>
        rw [taken_split h.q16 p h.alph hne, Nat.pow_succ, Nat.mul_comm]
        exact sumN_le fun a _ => PCode.le h d (p ++ [ltr a]) (by simp; omega)

/-- Proper beginnings of words. -/
def Inner (ws : List (List UInt8)) (p : List UInt8) : Prop := ∃ w ∈ ws, p.isPrefixOf w = true ∧ p.length < w.length
/-- Nothing is missing. -/
def Whole (q : Nat) (ws : List (List UInt8)) : Prop := ∀ p, Inner ws p → ∀ a, a < q → Inner ws (p ++ [ltr a]) ∨ p ++ [ltr a] ∈ ws

theorem PCode.outer {q : Nat} {ws : List (List UInt8)} (h : PCode q ws) {p : List UInt8} (hp : Inner ws p) : p ∉ ws := fun hm => by
  obtain ⟨w, hw, hpw, hl⟩ := hp
  have := h.free w hw p hm hpw
  rw [this] at hl
  omega

theorem PCode.of_whole {q : Nat} {ws : List (List UInt8)} (h : PCode q ws) (hw : Whole q ws) : ∀ (d : Nat) (p : List UInt8), p.length + d = 32 → (Inner ws p ∨ p ∈ ws) → taken q p ws = q ^ d
  | d, p, hl, hp => by
    by_cases hm : p ∈ ws
    · rw [h.word hm]
      unfold wtN
      rw [show 32 - p.length = d by omega]
    · have hi : Inner ws p := hp.elim id fun e => absurd e hm
      have hne : ∀ w ∈ ws, w ≠ p := fun w hw e => hm (e ▸ hw)
      cases d with
      | zero =>
        obtain ⟨w, hw1, hw2, hw3⟩ := hi
        have := h.short w hw1
        omega
      | succ d =>
        rw [taken_split h.q16 p h.alph hne, Nat.pow_succ, Nat.mul_comm]
        exact sumN_const fun a ha => PCode.of_whole h hw d (p ++ [ltr a]) (by simp; omega) (hw p hi a ha)

theorem inner_init {ws : List (List UInt8)} {p : List UInt8} {b : UInt8} (h : Inner ws (p ++ [b])) : Inner ws p := by
  obtain ⟨w, h1, h2, h3⟩ := h
  exact ⟨w, h1, pre_snoc h2, by simp at h3; omega⟩

theorem PCode.full {q : Nat} {ws : List (List UInt8)} (h : PCode q ws) (hT : taken q [] ws = q ^ 32) : ∀ (n : Nat) (p : List UInt8), p.length = n → Inner ws p → taken q p ws = q ^ (32 - n) ∧ ∀ a, a < q → taken q (p ++ [ltr a]) ws = q ^ (32 - (n + 1))
  | n, p, hn, hi => by
    have hm := h.outer hi
    have hne : ∀ w ∈ ws, w ≠ p := fun w hw e => hm (e ▸ hw)
    have hlen : n + 1 ≤ 32 := by
      obtain ⟨w, h1, h2, h3⟩ := hi
      have := h.short w h1
      omega
    have hfull : taken q p ws = q ^ (32 - n) := by
      cases n with
      | zero =>
        have : p = [] := List.length_eq_zero_iff.1 hn
        subst this
        exact hT
      | succ n =>
        obtain ⟨x, b, rfl⟩ : ∃ x b, p = x ++ [b] := by
          have hp0 : p ≠ [] := fun e => by subst e; simp at hn
          exact ⟨p.dropLast, p.getLast hp0, (List.dropLast_concat_getLast hp0).symm⟩
        have hxl : x.length = n := by simpa using hn
        have ih := PCode.full h hT n x hxl (inner_init hi)
        obtain ⟨w, h1, h2, h3⟩ := hi
        have hbw : b ∈ w := by
          obtain ⟨t, rfl⟩ := pre_iff.1 h2
          simp
        obtain ⟨a, ha, rfl⟩ := h.alph w h1 b hbw
        exact ih.2 a ha
    refine ⟨hfull, ?_⟩
    rw [taken_split h.q16 p h.alph hne, show 32 - n = (32 - (n + 1)) + 1 by omega, Nat.pow_succ, Nat.mul_comm] at hfull
    exact sumN_full (fun a _ => h.le (32 - (n + 1)) (p ++ [ltr a]) (by simp; omega)) hfull

theorem PCode.whole_of {q : Nat} {ws : List (List UInt8)} (h : PCode q ws) (hT : taken q [] ws = q ^ 32) : Whole q ws := fun p hi a ha => by
  have h1 := (h.full hT p.length p rfl hi).2 a ha
  have h2 : taken q (p ++ [ltr a]) ws ≠ 0 := by
    rw [h1]; exact Nat.ne_of_gt (Nat.pow_pos h.q0)
  obtain ⟨w, hw, hp⟩ := taken_some h2
  by_cases e : w = p ++ [ltr a]
  · exact .inr (e ▸ hw)
  · refine .inl ⟨w, hw, hp, ?_⟩
    obtain ⟨b, _, hb⟩ := pre_more hp e
    have := (List.isPrefixOf_iff_prefix.1 hb).length_le
    simp at this ⊢
    omega

/-- The measure is 1 exactly if nothing is missing. -/
theorem PCode.one_iff {q : Nat} {ws : List (List UInt8)} (h : PCode q ws) (hi : Inner ws []) : taken q [] ws = q ^ 32 ↔ Whole q ws :=
  ⟨h.whole_of, fun hw => h.of_whole hw 32 [] rfl (.inl hi)⟩
theorem PCode.one_le {q : Nat} {ws : List (List UInt8)} (h : PCode q ws) : taken q [] ws ≤ q ^ 32 := h.le 32 [] rfl

theorem taken_sum (q : Nat) : ∀ ws : List (List UInt8), taken q [] ws = ((ws.map List.length).map fun n => q ^ (32 - n)).sum
  | [] => rfl
  | w :: ws => by
    show (if ([] : List UInt8).isPrefixOf w then wtN q w else 0) + taken q [] ws = _
    rw [if_pos (by simp [List.isPrefixOf]), taken_sum q ws]
    simp [wtN]
end Go.Proofs.YtjjedaikbgfmmaaGreat.Kn
end

section
namespace Go.Proofs.YtjjedaikbgfmmaaGreat
open Go Go.AM
set_option maxRecDepth 100000
set_option linter.unusedSimpArgs false

theorem ixB_hit (c : UInt8) : ∀ (l : List UInt8) (n : Nat), 0 ≤ ixB c l n → ∃ k : Nat, ixB c l n = ((n + k : Nat) : Int) ∧ l.getD k 0 = c
  | [], n, h => by simp [ixB] at h
  | a :: l, n, h => by
    unfold ixB at h ⊢
    cases hb : Nat.beq a.toNat c.toNat with
    | true =>
      rw [hb] at h
      exact ⟨0, by simp, by simpa using UInt8.toNat_inj.1 (Nat.eq_of_beq_eq_true hb)⟩
    | false =>
      rw [hb] at h
      obtain ⟨k, h1, h2⟩ := ixB_hit c l (n + 1) h
      exact ⟨k + 1, by simp only [h1]; omega, by simpa using h2⟩
theorem alph_of {q : Int} {w : List UInt8} (h : wordCheck q w = 0) : Kn.Alph q.toNat w := fun b hb => by
  have hw : okW q w = true := by
    unfold wordCheck at h
    split at h
    · cases h
    · split at h
      · cases h
      · split at h
        · assumption
        · cases h
  have h1 := List.all_eq_true.1 hw b hb
  unfold okB at h1
  simp only [Bool.and_eq_true, decide_eq_true_eq] at h1
  obtain ⟨k, h3, h4⟩ := ixB_hit b L16 0 h1.1
  exact ⟨k, by omega, h4.symm⟩
theorem ixB_ltr {a : Nat} (ha : a < 16) : ixB (Kn.ltr a) L16 0 = a := by
  have key : ∀ a : Fin 16, ixB (L16.getD a.val 0) L16 0 = (a.val : Int) := by decide
  exact key ⟨a, ha⟩
theorem word_of {q : Nat} {w : List UInt8} (hq1 : 1 ≤ q) (hq : q ≤ 16) (hl : w.length ≤ 65536) (h : Kn.Alph q w) : wordCheck q w = 0 := by
  unfold wordCheck
  rw [if_neg (by omega), if_neg (by omega), if_pos]
  refine List.all_eq_true.2 fun b hb => ?_
  obtain ⟨a, h1, rfl⟩ := h b hb
  unfold okB
  rw [ixB_ltr (by omega)]
  simp only [Bool.and_eq_true, decide_eq_true_eq]
  omega

theorem free_of {ws : List (List UInt8)} (hn : ws.Nodup) (hp : prefB ws = true) : ∀ x ∈ ws, ∀ y ∈ ws, y.isPrefixOf x = true → x = y := fun x hx y hy h => (alone_iff (pr := fun w x => x.isPrefixOf w) hn).1 hp x hx y hy h
theorem pref_of {ws : List (List UInt8)} (hn : ws.Nodup) (h : ∀ x ∈ ws, ∀ y ∈ ws, y.isPrefixOf x = true → x = y) : prefB ws = true := (alone_iff (pr := fun w x => x.isPrefixOf w) hn).2 h
theorem pcode_of {q : Int} {ws : List (List UInt8)} (hv : Valid q ws) (hp : prefB ws = true) : Kn.PCode q.toNat ws := by
  have h2 := hv.q2
  have h16 := hv.q16
  exact { q0 := by omega, q16 := by omega, nodup := strict_nodup hv.strict, free := free_of (strict_nodup hv.strict) hp, alph := fun w hw => alph_of (hv.words w hw).2.2, short := fun w hw => (hv.words w hw).2.1 }

theorem made_len {l : List (List UInt8)} (h : l.Nodup) : (made l).length = l.length := by
  have e : made l = sortW l := strict_unique (made_strict l) (sortW_strict h) fun x => by
    rw [mem_made]
    exact (List.mergeSort_perm l _).mem_iff.symm
  rw [e, sortW_length]

/-- A word that is missing. -/
def Miss (q : Nat) (ws : List (List UInt8)) (m : List UInt8) : Prop := ∃ p a, Kn.Inner ws p ∧ a < q ∧ m = p ++ [Kn.ltr a] ∧ begB ws m = false
theorem mem_missing {q : Nat} {ws : List (List UInt8)} {m : List UInt8} : m ∈ missing q ws ↔ Miss q ws m := by
  unfold missing Miss
  rw [mem_made]
  unfold missL missW missP missA
  simp only [List.mem_flatMap, List.mem_range]
  constructor
  · rintro ⟨i, hi, n, hn, a, ha, hm⟩
    split at hm
    · cases hm
    · rename_i hb
      have hm := List.mem_singleton.1 hm
      rw [List.getD_eq_getElem?_getD, List.getElem?_eq_getElem hi, Option.getD_some] at hn hm
      refine ⟨ws[i].take n, a, ⟨ws[i], List.getElem_mem hi, List.isPrefixOf_iff_prefix.2 (List.take_prefix _ _), by rw [List.length_take]; omega⟩, ha, hm, ?_⟩
      rw [List.getD_eq_getElem?_getD, List.getElem?_eq_getElem hi, Option.getD_some] at hb
      rw [hm]; exact eq_false_of_ne_true hb
  · rintro ⟨p, a, ⟨w, hw, hpw, hl⟩, ha, rfl, hb⟩
    obtain ⟨i, hi, rfl⟩ := List.getElem_of_mem hw
    have htk : ws[i].take p.length = p := (List.prefix_iff_eq_take.1 (List.isPrefixOf_iff_prefix.1 hpw)).symm
    refine ⟨i, hi, p.length, ?_, a, ha, ?_⟩
    · rw [List.getD_eq_getElem?_getD, List.getElem?_eq_getElem hi, Option.getD_some]; exact hl
    · rw [List.getD_eq_getElem?_getD, List.getElem?_eq_getElem hi, Option.getD_some, htk, if_neg]
      · exact List.mem_singleton.2 rfl
      · have e : p ++ [letA a] = p ++ [Kn.ltr a] := rfl
        rw [e, hb]; decide
theorem begB_iff {ws : List (List UInt8)} {x : List UInt8} : begB ws x = true ↔ ∃ w ∈ ws, x <+: w := by
  unfold begB
  rw [List.any_eq_true]
  exact ⟨fun ⟨w, h1, h2⟩ => ⟨w, h1, List.isPrefixOf_iff_prefix.1 h2⟩, fun ⟨w, h1, h2⟩ => ⟨w, h1, List.isPrefixOf_iff_prefix.2 h2⟩⟩

/-- The words that a word leads to, with k letters more. -/
def extL (q : Nat) : List UInt8 → Nat → List (List UInt8)
  | w, 0 => [w]
  | w, k + 1 => (List.range q).flatMap fun a => extL q (w ++ [letA a]) k
theorem mem_extL {q : Nat} : ∀ {k : Nat} {w x : List UInt8}, x ∈ extL q w k ↔ ∃ u, x = w ++ u ∧ u.length = k ∧ Kn.Alph q u
  | 0, w, x => by
    unfold extL
    rw [List.mem_singleton]
    constructor
    · rintro rfl; exact ⟨[], by simp, rfl, fun b hb => by cases hb⟩
    · rintro ⟨u, rfl, hu, _⟩; rw [List.eq_nil_of_length_eq_zero hu, List.append_nil]
  | k + 1, w, x => by
    unfold extL
    simp only [List.mem_flatMap, List.mem_range]
    constructor
    · rintro ⟨a, ha, hx⟩
      obtain ⟨u, rfl, h1, h2⟩ := mem_extL.1 hx
      refine ⟨letA a :: u, by simp, by simp [h1], fun b hb => ?_⟩
      rcases List.mem_cons.1 hb with rfl | hb
      · exact ⟨a, ha, rfl⟩
      · exact h2 b hb
    · rintro ⟨u, rfl, h1, h2⟩
      cases u with
      | nil => simp at h1
      | cons b u =>
        obtain ⟨a, ha, rfl⟩ := h2 b (by simp)
        exact ⟨a, ha, mem_extL.2 ⟨u, by simp [letA, Kn.ltr], by simpa using h1, fun c hc => h2 c (by simp [hc])⟩⟩
theorem extL_nodup {q : Nat} (hq : q ≤ 16) : ∀ (k : Nat) (w : List UInt8), (extL q w k).Nodup
  | 0, w => by unfold extL; simp
  | k + 1, w => by
    unfold extL
    refine List.pairwise_flatMap.2 ⟨fun a _ => extL_nodup hq k _, ?_⟩
    refine List.Pairwise.imp_of_mem ?_ (List.nodup_range (n := q))
    intro a b ha hb hne x hx y hy e
    subst e
    obtain ⟨u, rfl, _, _⟩ := mem_extL.1 hx
    obtain ⟨v, hv, _, _⟩ := mem_extL.1 hy
    rw [List.append_assoc, List.append_assoc] at hv
    have := List.append_cancel_left hv
    simp only [List.singleton_append, List.cons.injEq] at this
    exact hne (Kn.ltr_inj (by have := List.mem_range.1 ha; omega) (by have := List.mem_range.1 hb; omega) this.1)

/-- The words that are added, all of at least n letters. -/
def embL (q : Nat) (ws : List (List UInt8)) (n : Nat) : List (List UInt8) := (missing q ws).flatMap fun w => extL q w (n - w.length)
theorem mem_embL {q : Nat} {ws : List (List UInt8)} {n : Nat} {x : List UInt8} : x ∈ embL q ws n ↔ ∃ m u, Miss q ws m ∧ x = m ++ u ∧ u.length = n - m.length ∧ Kn.Alph q u := by
  unfold embL
  simp only [List.mem_flatMap, mem_missing, mem_extL]
  constructor
  · rintro ⟨m, h1, u, h2, h3, h4⟩; exact ⟨m, u, h1, h2, h3, h4⟩
  · rintro ⟨m, u, h1, h2, h3, h4⟩; exact ⟨m, h1, u, h2, h3, h4⟩
theorem embL_one (q : Nat) (ws : List (List UInt8)) : embL q ws 1 = missing q ws := by
  have key : ∀ l : List (List UInt8), (∀ w ∈ l, w ≠ []) → l.flatMap (fun w => extL q w (1 - w.length)) = l := by
    intro l h
    induction l with
    | nil => rfl
    | cons w l ih =>
      rw [List.flatMap_cons, ih fun x hx => h x (by simp [hx])]
      have : 1 - w.length = 0 := by have := List.length_pos_iff.2 (h w (by simp)); omega
      rw [this]; rfl
  refine key _ fun w hw e => ?_
  obtain ⟨p, a, _, _, h, _⟩ := mem_missing.1 hw
  rw [e] at h
  exact absurd h.symm (by simp)

theorem miss_begun {q : Nat} {ws : List (List UInt8)} (_ : Kn.PCode q ws) {m x : List UInt8} (hm : Miss q ws m) (hx : x ∈ ws) : ¬ m <+: x := fun h => by
  obtain ⟨p, a, _, _, _, hb⟩ := hm
  rw [begB_iff.2 ⟨x, hx, h⟩] at hb; cases hb

section
variable {q : Nat} {ws : List (List UInt8)} (hc : Kn.PCode q ws)
include hc
theorem miss_word {m x : List UInt8} (hm : Miss q ws m) (hx : x ∈ ws) : ¬ x <+: m := fun h => by
  obtain ⟨p, a, ⟨w, hw, hpw, hl⟩, ha, rfl, hb⟩ := hm
  rcases List.prefix_concat_iff.1 h with h1 | h1
  · have : begB ws (p ++ [Kn.ltr a]) = true := begB_iff.2 ⟨x, hx, by rw [h1]; exact List.prefix_refl _⟩
    rw [hb] at this; cases this
  · have h2 : x <+: w := h1.trans (List.isPrefixOf_iff_prefix.1 hpw)
    have h3 := hc.free w hw x hx (List.isPrefixOf_iff_prefix.2 h2)
    have h4 := h1.length_le
    rw [← h3] at h4; omega
theorem miss_miss {m1 m2 : List UInt8} (h1 : Miss q ws m1) (h2 : Miss q ws m2) (h : m1 <+: m2) : m1 = m2 := by
  obtain ⟨p, a, ⟨w, hw, hpw, hl⟩, ha, rfl, hb⟩ := h2
  rcases List.prefix_concat_iff.1 h with h3 | h3
  · exact h3
  · exact absurd (h3.trans (List.isPrefixOf_iff_prefix.1 hpw)) (miss_begun hc h1 hw)
theorem miss_short {m : List UInt8} (hm : Miss q ws m) : m.length ≤ 32 ∧ m ≠ [] ∧ Kn.Alph q m := by
  obtain ⟨p, a, ⟨w, hw, hpw, hl⟩, ha, rfl, hb⟩ := hm
  have h1 := hc.short w hw
  refine ⟨by simp; omega, by simp, fun b hb => ?_⟩
  rcases List.mem_append.1 hb with h2 | h2
  · exact hc.alph w hw b ((List.isPrefixOf_iff_prefix.1 hpw).subset h2)
  · exact ⟨a, ha, List.mem_singleton.1 h2⟩

theorem all_free {n : Nat} : ∀ x ∈ ws ++ embL q ws n, ∀ y ∈ ws ++ embL q ws n, y.isPrefixOf x = true → x = y := by
  intro x hx y hy h
  have h := List.isPrefixOf_iff_prefix.1 h
  rcases List.mem_append.1 hx with hx | hx <;> rcases List.mem_append.1 hy with hy | hy
  · exact hc.free x hx y hy (List.isPrefixOf_iff_prefix.2 h)
  · obtain ⟨m, u, hm, rfl, _, _⟩ := mem_embL.1 hy
    exact absurd ((List.prefix_append m u).trans h) (miss_begun hc hm hx)
  · obtain ⟨m, u, hm, rfl, _, _⟩ := mem_embL.1 hx
    rcases List.prefix_or_prefix_of_prefix h (List.prefix_append m u) with h1 | h1
    · exact absurd h1 (miss_word hc hm hy)
    · exact absurd h1 (miss_begun hc hm hy)
  · obtain ⟨m, u, hm, rfl, hu, _⟩ := mem_embL.1 hx
    obtain ⟨m', v, hm', rfl, hv, _⟩ := mem_embL.1 hy
    have he : m' = m := by
      rcases List.prefix_or_prefix_of_prefix ((List.prefix_append m' v).trans h) (List.prefix_append m u) with h1 | h1
      · exact miss_miss hc hm' hm h1
      · exact (miss_miss hc hm hm' h1).symm
    subst he
    exact (h.eq_of_length (by simp; omega)).symm

theorem all_whole {n : Nat} : Kn.Whole q (ws ++ embL q ws n) := by
  have hq0 := hc.q0
  have fill : ∀ k, Kn.Alph q (List.replicate k (Kn.ltr 0)) := fun k b hb => ⟨0, hq0, (List.mem_replicate.1 hb).2⟩
  have step : ∀ m u a, Miss q ws m → Kn.Alph q u → u.length < n - m.length → a < q → Kn.Inner (ws ++ embL q ws n) (m ++ u ++ [Kn.ltr a]) ∨ m ++ u ++ [Kn.ltr a] ∈ ws ++ embL q ws n := by
    intro m u a hm hu hl ha
    have hua : Kn.Alph q (u ++ [Kn.ltr a]) := fun b hb => by
      rcases List.mem_append.1 hb with h | h
      · exact hu b h
      · exact ⟨a, ha, List.mem_singleton.1 h⟩
    by_cases he : u.length + 1 = n - m.length
    · exact .inr (List.mem_append_right _ (mem_embL.2 ⟨m, u ++ [Kn.ltr a], hm, by rw [List.append_assoc], by simpa using he, hua⟩))
    · left
      refine ⟨m ++ u ++ [Kn.ltr a] ++ List.replicate (n - m.length - (u.length + 1)) (Kn.ltr 0), List.mem_append_right _ (mem_embL.2 ⟨m, u ++ [Kn.ltr a] ++ List.replicate (n - m.length - (u.length + 1)) (Kn.ltr 0), hm, by simp, by simp; omega, fun b hb => ?_⟩), List.isPrefixOf_iff_prefix.2 (List.prefix_append _ _), by simp; omega⟩
      rcases List.mem_append.1 hb with h | h
      · exact hua b h
      · exact fill _ b h
  have inner : ∀ p a, Kn.Inner ws p → a < q → Kn.Inner (ws ++ embL q ws n) (p ++ [Kn.ltr a]) ∨ p ++ [Kn.ltr a] ∈ ws ++ embL q ws n := by
    intro p a hp ha
    cases hb : begB ws (p ++ [Kn.ltr a])
    · have hm : Miss q ws (p ++ [Kn.ltr a]) := ⟨p, a, hp, ha, rfl, hb⟩
      by_cases hn : n - (p ++ [Kn.ltr a]).length = 0
      · exact .inr (List.mem_append_right _ (mem_embL.2 ⟨_, [], hm, by simp, by rw [hn]; rfl, fun b hb => by cases hb⟩))
      · left
        refine ⟨p ++ [Kn.ltr a] ++ List.replicate (n - (p ++ [Kn.ltr a]).length) (Kn.ltr 0), List.mem_append_right _ (mem_embL.2 ⟨_, _, hm, rfl, by simp, fill _⟩), List.isPrefixOf_iff_prefix.2 (List.prefix_append _ _), by simp at hn ⊢; omega⟩
    · obtain ⟨w, hw, hpw⟩ := begB_iff.1 hb
      by_cases he : p ++ [Kn.ltr a] = w
      · exact .inr (List.mem_append_left _ (he ▸ hw))
      · refine .inl ⟨w, List.mem_append_left _ hw, List.isPrefixOf_iff_prefix.2 hpw, ?_⟩
        have h1 := hpw.length_le
        by_cases h2 : (p ++ [Kn.ltr a]).length = w.length
        · exact absurd (hpw.eq_of_length h2) he
        · omega
  rintro p ⟨x, hx, hpx, hl⟩ a ha
  have hpx := List.isPrefixOf_iff_prefix.1 hpx
  rcases List.mem_append.1 hx with hx | hx
  · exact inner p a ⟨x, hx, List.isPrefixOf_iff_prefix.2 hpx, hl⟩ ha
  · obtain ⟨m, u, hm, rfl, hu, hal⟩ := mem_embL.1 hx
    rcases List.prefix_or_prefix_of_prefix hpx (List.prefix_append m u) with h1 | h1
    · by_cases h2 : p = m
      · subst h2
        have := step p [] a hm (fun b hb => by cases hb) (by simp at hl ⊢; omega) ha
        simpa using this
      · obtain ⟨p2, a2, ⟨w, hw, hpw, hl2⟩, ha2, rfl, hb⟩ := hm
        rcases List.prefix_concat_iff.1 h1 with h3 | h3
        · exact absurd h3 h2
        · exact inner p a ⟨w, hw, List.isPrefixOf_iff_prefix.2 (h3.trans (List.isPrefixOf_iff_prefix.1 hpw)), by have := h3.length_le; omega⟩ ha
    · obtain ⟨v, rfl⟩ := h1
      have h2 : v <+: u := (List.prefix_append_right_inj m).1 hpx
      refine step m v a hm (fun b hb => hal b (h2.subset hb)) ?_ ha
      simp at hl
      omega

theorem all_pcode {n : Nat} (hn : n ≤ 32) : Kn.PCode q (made (ws ++ embL q ws n)) := by
  refine { q0 := hc.q0, q16 := hc.q16, nodup := strict_nodup (made_strict _), free := fun x hx y hy => all_free hc x (mem_made.1 hx) y (mem_made.1 hy), alph := fun w hw => ?_, short := fun w hw => ?_ }
  · rcases List.mem_append.1 (mem_made.1 hw) with h | h
    · exact hc.alph w h
    · obtain ⟨m, u, hm, rfl, _, hal⟩ := mem_embL.1 h
      intro b hb
      rcases List.mem_append.1 hb with h1 | h1
      · exact (miss_short hc hm).2.2 b h1
      · exact hal b h1
  · rcases List.mem_append.1 (mem_made.1 hw) with h | h
    · exact hc.short w h
    · obtain ⟨m, u, hm, rfl, hu, _⟩ := mem_embL.1 h
      have := (miss_short hc hm).1
      simp; omega
theorem all_nodup {n : Nat} : (ws ++ embL q ws n).Nodup := by
  refine List.nodup_append.2 ⟨hc.nodup, ?_, fun x hx y hy e => ?_⟩
  · unfold embL
    refine List.pairwise_flatMap.2 ⟨fun m _ => extL_nodup hc.q16 _ _, ?_⟩
    refine List.Pairwise.imp_of_mem ?_ (strict_nodup (made_strict _))
    intro m1 m2 h1 h2 hne x hx y hy e
    subst e
    have h1 := mem_missing.1 h1
    have h2 := mem_missing.1 h2
    obtain ⟨u, rfl, _, _⟩ := mem_extL.1 hx
    obtain ⟨v, hv, _, _⟩ := mem_extL.1 hy
    rcases List.prefix_or_prefix_of_prefix (List.prefix_append m1 u) (hv ▸ List.prefix_append m2 v) with h3 | h3
    · exact hne (miss_miss hc h1 h2 h3)
    · exact hne (miss_miss hc h2 h1 h3).symm
  · subst e
    obtain ⟨m, u, hm, rfl, _, _⟩ := mem_embL.1 hy
    exact miss_begun hc hm hx (List.prefix_append m u)
end

theorem whole_made {q : Nat} {l : List (List UInt8)} (h : Kn.Whole q l) : Kn.Whole q (made l) := by
  have e : ∀ p, Kn.Inner (made l) p ↔ Kn.Inner l p := fun p => ⟨fun ⟨w, h1, h2⟩ => ⟨w, mem_made.1 h1, h2⟩, fun ⟨w, h1, h2⟩ => ⟨w, mem_made.2 h1, h2⟩⟩
  intro p hp a ha
  rcases h p ((e p).1 hp) a ha with h1 | h1
  · exact .inl ((e _).2 h1)
  · exact .inr (mem_made.2 h1)
theorem missing_nil {q : Nat} {ws : List (List UInt8)} (h : Kn.Whole q ws) : missing q ws = [] := by
  refine List.eq_nil_iff_forall_not_mem.2 fun m hm => ?_
  obtain ⟨p, a, hp, ha, rfl, hb⟩ := mem_missing.1 hm
  have : begB ws (p ++ [Kn.ltr a]) = true := by
    rcases h p hp a ha with ⟨w, h1, h2, _⟩ | h1
    · exact begB_iff.2 ⟨w, h1, List.isPrefixOf_iff_prefix.1 h2⟩
    · exact begB_iff.2 ⟨_, h1, List.prefix_refl _⟩
  rw [hb] at this; cases this
end Go.Proofs.YtjjedaikbgfmmaaGreat
end

section
namespace Go.Proofs.YtjjedaikbgfmmaaGreat
open Go Go.AM Go.RowKit
set_option maxRecDepth 100000
set_option maxHeartbeats 4000000
set_option linter.unusedSimpArgs false

theorem c66p (A B : List (List UInt8)) (hn : (A ++ B).length ≤ 1000000) : PFn Tryz.prog 66 [.sl [.sl (A.map .str), .sl (B.map .str)]] [.sl ((A ++ B).map .str)] := by
  refine .of_row (E := 9) (s := 1) ((c29b (h := []) rfl A B hn).monoR ?_)
  rintro v h' ⟨rk, hrk, rfl, rfl⟩
  exact ⟨0, rk, by rw [List.length_map]; rfl, rfl, hrk⟩

/-- A code made from words, or the zero. -/
def makeV (q : Int) (l : List (List UInt8)) : PV := if codeCheck q (made l) = 0 then codeV q (made l) else codeV 0 []
theorem makeV_code (q : Int) (l : List (List UInt8)) : ∃ p us, makeV q l = codeV p us ∧ us.length ≤ l.length := by
  unfold makeV
  split
  · exact ⟨_, _, rfl, made_le l⟩
  · exact ⟨0, [], rfl, by simp⟩

theorem r67 (q : Int) (ws l : List (List UInt8)) (h1 : ws.length ≤ 100000) (h2 : l.length ≤ 100000) : PFn Tryz.prog 67 [codeV q ws, .sl (l.map .str)] [makeV q (ws ++ l), .int .i64 (codeCheck q (made (ws ++ l)))] := by
  have e88 := u14 q (ws ++ l) (by rw [List.length_append]; omega)
  rw [← makeV] at e88
  obtain ⟨p, us, hpu, _⟩ := makeV_code q (ws ++ l)
  rw [hpu] at e88 ⊢
  refine PFn.of_body hΓ Tryz.func67 (by kernel_rfl) rfl (AWp.seq (AWp.of_awpD [] hΓ hmix (by kernel_rfl) ?_))
  simp -implicitDefEqProofs only [Tryz.ntmps67, Tryz.results67, Nat.reduceAdd, Nat.reduceSub, codeV, go_sem]
  refine AWp.seq ?_
  refine AWp.planL (.q 0 (.q 1 (.q 2 (.q 3 (.q 4 (.q 6 (.e 5 (.s 0 (.s 1 (.s 6 (.e 7 (.s 0 (.s 1 (.e 8 (.q 9 (.q 10 (.e 11 (.q 12 .fin) .nil))) .nil))) .nil)))) .nil))))))) hΓ hmix (by kernel_rfl) ?_
  simp -implicitDefEqProofs only [go_sem]
  refine ⟨⟨size_str [], by omega⟩, ⟨size_str _, one_str _⟩, ⟨size_str [], by omega, by omega⟩, ⟨size_str _, one_str _⟩, ⟨by split <;> simp, by simp, by omega, by omega⟩, ?_⟩
  unfold codeV at e88
  refine callK_give 2 e88 rfl (by simp [AV.thaw, AV.purL, AV.pur, AV.pur1]) ?_
  simp -implicitDefEqProofs only [AObj.thaw, AV.thaw, AV.thaw.thawL, List.map_cons, List.map_nil, List.set_cons_zero, List.set_cons_succ, go_sem]
  refine AWp.of_awpD [] hΓ hmix (by kernel_rfl) ?_
  simp -implicitDefEqProofs only [go_sem]

/-- Why a code cannot be completed. -/
def compE (q : Int) (ws : List (List UInt8)) : Int := if chE q ws ≠ 0 then chE q ws else codeCheck q (made (ws ++ missV q ws))
def compV (q : Int) (ws : List (List UInt8)) : PV := if chE q ws ≠ 0 then codeV 0 [] else makeV q (ws ++ missV q ws)

theorem missV_len {q : Int} {ws : List (List UInt8)} (hv : Valid q ws) : (missV q ws).length ≤ 32768 := by
  unfold missV
  split
  · have h1 := made_le (missL q.toNat ws ws.length)
    have h2 := missL_len (q := q.toNat) (ws := ws) (by have := hv.q16; omega) (fun x hx => (hv.words x hx).2.1) ws.length (Nat.le_refl _)
    have h3 := hv.len
    unfold missing
    omega
  · simp

theorem cm20 (q : Int) (ws : List (List UInt8)) : PFn Tryz.prog 20 [codeV q ws] [compV q ws, .int .i64 (compE q ws)] := by
  have e61 := cm61 q ws
  unfold compV compE
  refine PFn.of_body hΓ Tryz.func20 (by kernel_rfl) rfl (AWp.of_awpD [(4, 11)] hΓ hmix (by kernel_rfl) ?_)
  simp -implicitDefEqProofs only [Tryz.ntmps20, Tryz.results20, Nat.reduceAdd, Nat.reduceSub, codeV, go_sem]
  unfold codeV at e61
  refine callK_fn e61 (.still rfl) ?_
  by_cases hc : chE q ws = 0
  · obtain ⟨hv, _⟩ := chE_valid hc
    have hl := missV_len hv
    have hlen := hv.len
    have hq : ((q.toNat : Nat) : Int) = q := by have := hv.q2; omega
    have e62 := cm62 q.toNat ws (by rw [hq]; exact hv)
    rw [hq, show missing q.toNat ws = missV q ws by unfold missV; rw [if_pos hc]] at e62
    have e66 := c66p ws (missV q ws) (by rw [List.length_append]; omega)
    have e71 := t71 q (ws ++ missV q ws) (by rw [List.length_append]; omega)
    rw [← makeV] at e71
    obtain ⟨p, us, hpu, _⟩ := makeV_code q (ws ++ missV q ws)
    rw [hpu] at e71
    unfold codeV at e62 e71
    rw [hc, if_neg (by simp), if_neg (by simp), hpu]
    simp -implicitDefEqProofs only [go_sem]
    refine callVPK_fn e62 (.still rfl) ?_
    simp -implicitDefEqProofs only [go_sem]
    refine ⟨⟨by simp [sizeOK, PV.cells], by omega⟩, callVPK_fn e66 (.still rfl) ?_⟩
    simp -implicitDefEqProofs only [go_sem]
    refine callVPK_fn e71 (.still rfl) ?_
    simp -implicitDefEqProofs only [codeV, go_sem]
  · rw [if_pos hc, if_pos hc]
    simp -implicitDefEqProofs only [hc, codeV, List.map_nil, go_sem]

theorem r21 (q : Int) (ws : List (List UInt8)) : PFn Tryz.prog 21 [codeV q ws] [compV q ws, .int .i64 (compE q ws)] := by
  have e63 := p63 q ws
  unfold compV compE
  refine PFn.of_body hΓ Tryz.func21 (by kernel_rfl) rfl (AWp.of_awpD [(4, 6)] hΓ hmix (by kernel_rfl) ?_)
  simp -implicitDefEqProofs only [Tryz.ntmps21, Tryz.results21, Nat.reduceAdd, Nat.reduceSub, codeV, go_sem]
  unfold codeV at e63
  refine callK_fn e63 (.still rfl) ?_
  by_cases hc : chE q ws = 0
  · obtain ⟨hv, _⟩ := chE_valid hc
    have hl := missV_len hv
    have hlen := hv.len
    have hq : ((q.toNat : Nat) : Int) = q := by have := hv.q2; omega
    have e64 := r64 q.toNat ws (by rw [hq]; exact hv)
    rw [hq, show missing q.toNat ws = missV q ws by unfold missV; rw [if_pos hc]] at e64
    have e67 := r67 q ws (missV q ws) (by omega) (by omega)
    obtain ⟨p, us, hpu, _⟩ := makeV_code q (ws ++ missV q ws)
    rw [hpu] at e67
    unfold codeV at e64 e67
    rw [hc, if_neg (by simp), if_neg (by simp), hpu]
    simp -implicitDefEqProofs only [go_sem]
    refine callVPK_fn e64 (.still rfl) ?_
    simp -implicitDefEqProofs only [go_sem]
    refine callVPK_fn e67 (.still rfl) ?_
    simp -implicitDefEqProofs only [codeV, go_sem]
  · rw [if_pos hc, if_pos hc]
    simp -implicitDefEqProofs only [hc, codeV, List.map_nil, go_sem]
end Go.Proofs.YtjjedaikbgfmmaaGreat
end

