/-
  completion.missing.
  completion.missing, walked.
  Codes without beginnings of others, plain.
  Missing.
  Kraft's sum of a prefix code, plain: at most 1, and 1 exactly if nothing is missing.
  Completed prefix codes: plain.
  Complete.
  measure.Of; a code that is whole.
  The law CompletionWhole.
  Words cut within themselves, plain.
  Pruned codes: plain.
  The reference's Same.
  The law CompletionPrunes.
-/
import Derived.Test.YtjjedaikbgfmmaaGreatJc2b6781b6c49
import Derived.Test.YtjjedaikbgfmmaaGreatJ8df0f086fdec
import Derived.Test.YtjjedaikbgfmmaaGreatJf402667787f2
import Derived.Test.YtjjedaikbgfmmaaGreatJ93c1dccf7599

section
namespace Go.Proofs.YtjjedaikbgfmmaaGreat
open Go Go.AM Go.RowKit
set_option maxRecDepth 100000
set_option maxHeartbeats 4000000
set_option linter.unusedSimpArgs false

theorem km107 (a b : ByteArray) (w : World) : Calls Tryz.prog 107 #[.string a, .string b] w fun e w' => e = .returned (.int .i64 (cmpK a.data.toList b.data.toList)) ∧ ∃ q os, w' = Sort.grow (w.drewN q) os := by
  have hc1 := k103
  have hc2 := k104
  have hc3 := k102
  go_enter Tryz.func107, Tryz.ntmps107
  go_wp2_with (first | (go_at_call 56; refine (hc1 _ _ _).mono ?_; rintro e w' ⟨rfl, rfl⟩) | (go_at_call 148; refine (hc2 _ _ _).mono ?_; rintro e w' ⟨rfl, rfl⟩) | (go_at_call 147; refine (hc3 _ _ _ _ _ (newCells _ _ _ _ _ rfl) (newCells _ _ _ _ _ rfl)).mono ?_; rintro e w' ⟨rfl, rfl⟩))
  all_goals go_ret
  all_goals have e1 : ∀ x : ByteArray, x.data.toList.length = x.size := fun x => by simp
  · refine ⟨congrArg (fun n => Ending.returned (Value.int .i64 n)) ?_, 0, #[_], by rw [Sort.alloc_eq_grow]; rfl⟩
    have hs : a.size = b.size := by
      rcases Nat.lt_trichotomy a.size b.size with g | g | g
      · rw [if_pos g] at h; cases h
      · exact g
      · rw [if_neg (by omega), if_pos g] at h; cases h
    unfold cmpK
    simp only [e1, hs]
    rw [if_pos (by simp)]
  · refine ⟨congrArg (fun n => Ending.returned (Value.int .i64 n)) ?_, 0, #[_], by rw [Sort.alloc_eq_grow]; rfl⟩
    unfold cmpK
    simp only [e1]
    rw [if_pos (show (a.size : Int) < b.size by omega)]; rfl
  · refine ⟨congrArg (fun n => Ending.returned (Value.int .i64 n)) ?_, 0, #[_], by rw [Sort.alloc_eq_grow]; rfl⟩
    unfold cmpK
    simp only [e1]
    rw [if_neg (show ¬ (a.size : Int) < b.size by omega), if_pos (show (b.size : Int) < a.size by omega)]; rfl
theorem sort_calls107 (d : List (List UInt8)) (blk off cap : Nat) (w : World) (hH : Sort.Holds encW w blk off d.toArray) (hblk : blk < w.heap.size) (hsz : d.length < 4611686018427387904) :
    Calls Tryz.prog 106 #[.slice (some ⟨blk, off, none⟩) d.length cap, .func (.func 107) #[] #[]] w fun e w' => e = .returned (.tuple #[]) ∧ ∃ n os, w' = sortWorld encW w blk off n (sortW d).toArray os := by
  have eg : ∀ args w, (callFunc 107 args).run Tryz.prog w = .ok (.enter 107 args) w := entersF_of Tryz.func107 (by kernel_rfl) rfl
  have hcmp : CmpLays1 Tryz.prog 107 #[] encW cmpK blk off d.toArray.size w := fun m os dk _ x y => km107 ⟨x.toArray⟩ ⟨y.toArray⟩ _
  have h := Any.slices_SortFunc_total Tryz.sortS encW (fun _ => rfl) cmpK swoW 107 #[] blk off cap d.toArray w eg hcmp hH hblk (by simpa using hsz) (fun x y h1 h2 => ltW_total ((ltOf_false x y).1 h1) ((ltOf_false y x).1 h2))
  exact h
theorem cm106 {h : List AObj} {b : Nat} (l : List (List UInt8)) (hb : h[b]? = some (.row 9 1 (l.map .str) .own)) (hsz : l.length ≤ 1000000) :
    AC Tryz.prog 106 [.own b l.length, .fn 107 []] h [] (fun v h' => v = .tup [] ∧ h' = h.set b (.row 9 1 ((sortW l).map .str) .own)) := c83_of sort_calls107 l hb hsz

/-- The letter with a number. -/
def letA (a : Nat) : UInt8 := L16.getD a 0
/-- Whether a word of a list begins with x. -/
def begB (ws : List (List UInt8)) (x : List UInt8) : Bool := ws.any fun y => x.isPrefixOf y
def missA (ws : List (List UInt8)) (p : List UInt8) (a : Nat) : List (List UInt8) := if begB ws (p ++ [letA a]) = true then [] else [p ++ [letA a]]
def missP (ws : List (List UInt8)) (p : List UInt8) (k : Nat) : List (List UInt8) := (List.range k).flatMap (missA ws p)
def missW (q : Nat) (ws : List (List UInt8)) (w : List UInt8) (n : Nat) : List (List UInt8) := (List.range n).flatMap fun m => missP ws (w.take m) q
def missL (q : Nat) (ws : List (List UInt8)) (i : Nat) : List (List UInt8) := (List.range i).flatMap fun j => missW q ws (ws.getD j []) (ws.getD j []).length
def missing (q : Nat) (ws : List (List UInt8)) : List (List UInt8) := made (missL q ws ws.length)

theorem missP_succ (ws : List (List UInt8)) (p : List UInt8) (k : Nat) : missP ws p (k + 1) = missP ws p k ++ missA ws p k := by unfold missP; rw [List.range_succ, List.flatMap_append]; simp
theorem missW_succ (q : Nat) (ws : List (List UInt8)) (w : List UInt8) (n : Nat) : missW q ws w (n + 1) = missW q ws w n ++ missP ws (w.take n) q := by unfold missW; rw [List.range_succ, List.flatMap_append]; simp
theorem missL_succ {q : Nat} {ws : List (List UInt8)} {i : Nat} (hi : i < ws.length) : missL q ws (i + 1) = missL q ws i ++ missW q ws ws[i] ws[i].length := by
  have e : ws.getD i [] = ws[i] := by rw [List.getD_eq_getElem?_getD, List.getElem?_eq_getElem hi, Option.getD_some]
  unfold missL; rw [List.range_succ, List.flatMap_append, List.flatMap_singleton, e]
theorem missP_len (ws : List (List UInt8)) (p : List UInt8) : ∀ k, (missP ws p k).length ≤ k
  | 0 => by simp [missP]
  | k + 1 => by
    have ih := missP_len ws p k
    rw [missP_succ, List.length_append]
    unfold missA
    split <;> simp only [List.length_nil, List.length_cons] <;> omega
theorem missW_len (q : Nat) (ws : List (List UInt8)) (w : List UInt8) : ∀ n, (missW q ws w n).length ≤ q * n
  | 0 => by simp [missW]
  | n + 1 => by
    have ih := missW_len q ws w n
    have h2 := missP_len ws (w.take n) q
    rw [missW_succ, List.length_append, Nat.mul_succ]
    omega
theorem missL_len {q : Nat} {ws : List (List UInt8)} (hq : q ≤ 16) (hw : ∀ x ∈ ws, x.length ≤ 32) : ∀ i, i ≤ ws.length → (missL q ws i).length ≤ 512 * i
  | 0, _ => by simp [missL]
  | i + 1, hi => by
    have ih := missL_len hq hw i (by omega)
    have h2 := missW_len q ws ws[i] ws[i].length
    have h3 := hw ws[i] (List.getElem_mem _)
    rw [missL_succ hi, List.length_append]
    have : q * ws[i].length ≤ 16 * 32 := Nat.mul_le_mul hq h3
    omega

/-- A row that grew from nothing. -/
def rkOf (l : List (List UInt8)) : RK := if l = [] then .lax else .own
theorem rkOf_snoc (l : List (List UInt8)) (x : List UInt8) : rkOf (l ++ [x]) = .own := by unfold rkOf; rw [if_neg (by simp)]
end Go.Proofs.YtjjedaikbgfmmaaGreat
end

section
namespace Go.Proofs.YtjjedaikbgfmmaaGreat
open Go Go.AM Go.RowKit
set_option maxRecDepth 100000
set_option maxHeartbeats 4000000
set_option linter.unusedSimpArgs false

/-- The heap ahead of a loop over a function: a code, the list in its box, a word, the loop's record. -/
def miH (q : Nat) (ws : List (List UInt8)) (out : List (List UInt8)) (w : List UInt8) (rec : AObj) : List AObj :=
  [.box [.p (.int .i64 q), .p (.sl (ws.map .str))], .box [.own 2 out.length], .row 9 1 (out.map .str) (rkOf out), .box [.p (.str w)], rec]

theorem sub_letters {a : Nat} (ha : a < 16) : List.take 1 (List.drop a [48, 49, 50, 51, 52, 53, 54, 55, 56, 57, 97, 98, 99, 100, 101, 102]) = [letA a] := by
  have : ∀ a, a < 16 → List.take 1 (List.drop a ([48, 49, 50, 51, 52, 53, 54, 55, 56, 57, 97, 98, 99, 100, 101, 102] : List UInt8)) = [letA a] := by decide
  exact this a ha

theorem AWp.name {E : Env} {r : Option Nat} {c : Code} {Q : Exit → St → Prop} {tm : List AV} {h : List AObj} (hw : ∀ h0, h0 = h → AWp E r c Q ⟨tm, h0⟩) : AWp E r c Q ⟨tm, h⟩ := hw h rfl
theorem c116m {q : Nat} {ws : List (List UInt8)} {out : Nat → List (List UInt8)} {w : List UInt8} (hwl : w.length ≤ 100000) {tm : List AV} {ps : List Nat} {cs bd : Code}
    (hround : ∀ n, n < w.length + 1 → n ≤ w.length → YC Tryz.prog 4 [.p (.str (w.take n))] (miH q ws (out n) w (.lp tm ps cs bd .ready)) [2] (fun v h' => v = .p (.bool true) ∧ h' = miH q ws (out (n + 1)) w (.lp tm ps cs bd .ready))) :
    AC Tryz.prog 116 [.yld 4, .ptr 3 0] (miH q ws (out 0) w (.lp tm ps cs bd .ready)) [2] (fun _ h' => h' = miH q ws (out (w.length + 1)) w (.lp tm ps cs bd .ready)) :=
  c116 (by simp) (by simp) w hwl (fun n => miH q ws (out n) w (.lp tm ps cs bd .ready)) (w.length + 1) (w.length + 1) (by simp [miH]) (fun n _ => rfl) hround (.inl ⟨rfl, rfl⟩)

theorem cm62 (q : Nat) (ws : List (List UInt8)) (hv : Valid q ws) : PFn Tryz.prog 62 [codeV q ws] [.sl ((missing q ws).map .str)] := by
  have hlen := hv.len
  have hq16 := hv.q16
  have hws := hv.words
  refine PFn.of_body hΓ Tryz.func62 (by kernel_rfl) rfl (AWp.seq (AWp.of_awpD [] hΓ hmix (by kernel_rfl) ?_))
  simp -implicitDefEqProofs only [Tryz.ntmps62, Tryz.results62, Nat.reduceAdd, Nat.reduceSub, codeV, go_sem]
  refine AWp.seq (AWp.of_awpD [] hΓ hmix (by kernel_rfl) ?_)
  simp -implicitDefEqProofs only [go_sem]
  refine AWp.adoptBox (l := []) 1 9 1 rfl (by simp) ?_
  simp -implicitDefEqProofs only [List.set_cons_zero, List.set_cons_succ, go_sem]
  refine AWp.seq (AWp.of_awpD [] hΓ hmix (by kernel_rfl) ?_)
  simp -implicitDefEqProofs only [go_sem]
  refine AWp.loopJ (fun i : Nat => ⟨mkF 49 [(1, .ptr 0 0), (3, .ptr 1 0), (10, .p (.sl (ws.map .str))), (11, .p (.int .i64 ws.length)), (12, .p (.int .i64 i))], [.box [.p (.int .i64 q), .p (.sl (ws.map .str))], .box [.own 2 (missL q ws i).length], .row 9 1 ((missL q ws i).map .str) (rkOf (missL q ws i))]⟩)
    (fun i => i ≤ ws.length) (fun i => ws.length - i) 0 (fun x => by simp [BelowAll, mkF, AV.blw, AV.blw.blwL, blwH, AObj.blw]) (by simp [go_sem, missL, rkOf]) (by omega) ?_
  intro i hi
  refine AWp.seq (AWp.of_awpD [] hΓ hmix (by kernel_rfl) ?_)
  simp -implicitDefEqProofs only [go_sem]
  by_cases hlt : i < ws.length
  · have hlt' : (i : Int) < (ws.length : Int) := by omega
    have hg : (ws.map PV.str).getD i default = .str ws[i] := getD_map_lt _ _ _ _ hlt
    obtain ⟨hw0, hw32, hwc⟩ := hws ws[i] (List.getElem_mem hlt)
    have hwp : 0 < ws[i].length := List.length_pos_iff.2 hw0
    refine AWp.seq (AWp.of_awpD [] hΓ hmix (by kernel_rfl) ?_)
    simp -implicitDefEqProofs only [hlt, go_sem]
    refine AWp.seq (AWp.block ?_)
    refine AWp.seq (AWp.of_awpD [] hΓ hmix (by kernel_rfl) ?_)
    simp -implicitDefEqProofs only [hlt, hg, Int.toNat_natCast, go_sem]
    refine AWp.seq (AWp.of_awpD [] hΓ hmix (by kernel_rfl) ?_)
    simp -implicitDefEqProofs only [go_sem]
    refine ⟨by simp only [InR]; omega, ⟨by omega, by omega⟩, ?_⟩
    refine callK_ac (c73 _) (by simp) ?_
    rintro v h' ⟨rfl, rfl⟩
    simp -implicitDefEqProofs only [killAll, List.foldl, go_sem]
    generalize hwe : ws[i] = w at *
    have hz : ((w.length : Int) - 1).toNat = w.length - 1 := by omega
    rw [hz]
    have hlL := missL_len (q := q) (ws := ws) (by omega) (fun x hx => (hws x hx).2.1) i (by omega)
    have hs0 := missL_succ (q := q) hlt
    rw [hwe] at hs0
    have htk : ∀ n, n ≤ w.length - 1 → (w.take (w.length - 1)).take n = w.take n := fun n hn => by rw [List.take_take, Nat.min_eq_left hn]
    have hwl' : (w.take (w.length - 1)).length = w.length - 1 := by rw [List.length_take]; omega
    generalize hxe : w.take (w.length - 1) = x at *
    refine AWp.block ?_
    refine AWp.weak (st' := ⟨mkF 49 [(1, .ptr 0 0), (3, .ptr 1 0), (10, .p (.sl (ws.map .str))), (11, .p (.int .i64 ws.length)), (12, .p (.int .i64 i)), (21, .fn 116 [.ptr 3 0])], [.box [.p (.int .i64 q), .p (.sl (ws.map .str))], .box [.own 2 (missL q ws i ++ missW q ws w 0).length], .row 9 1 ((missL q ws i ++ missW q ws w 0).map .str) (rkOf (missL q ws i ++ missW q ws w 0)), .box [.p (.str x)]]⟩) (by simp [go_sem, weakH_self, missW]) ?_
    rw [show (#[22] : Array Nat) = [22].toArray from rfl]
    refine AWp.rangeFunc (ks := [2]) rfl (c116m (q := q) (ws := ws) (out := fun n => missL q ws i ++ missW q ws w n) (w := x) (by omega) ?_) (by simp) (by simp) ?_
    · intro n hn hnx
      rw [htk n (by omega)]
      have hpl : (w.take n).length ≤ 32 := by rw [List.length_take]; omega
      have hmw := missW_len q ws w n
      have hmw2 : q * n ≤ 16 * 32 := Nat.mul_le_mul (by omega) (by omega)
      have hnext : missW q ws w (n + 1) = missW q ws w n ++ missP ws (w.take n) q := missW_succ q ws w n
      rw [hnext]
      generalize hpe : w.take n = p at *
      generalize hoe : missL q ws i ++ missW q ws w n = out at *
      have hol : out.length ≤ 512 * 64 + 512 := by rw [← hoe, List.length_append]; omega
      rw [← List.append_assoc, hoe]
      unfold miH
      refine YC.of_body (Γ := Γ) rfl rfl (by simp) ?_
      intro rr
      refine AWp.of_awpD [] hΓ hmix (by kernel_rfl) ?_
      simp -implicitDefEqProofs only [setP, go_sem]
      unfold BeginE
      refine ⟨rfl, ?_⟩
      simp -implicitDefEqProofs only [go_sem]
      refine AWp.of_awpD [] hΓ hmix (by kernel_rfl) ?_
      simp -implicitDefEqProofs only [go_sem]
      refine AWp.name ?_
      intro h0 hh0
      obtain ⟨rec, hh⟩ : ∃ rec, h0 = [.box [.p (.int .i64 q), .p (.sl (ws.map .str))], .box [.own 2 out.length], .row 9 1 (out.map .str) (rkOf out), .box [.p (.str x)], rec] := ⟨_, hh0⟩
      rw [hh] at hh0 ⊢
      simp only [List.cons.injEq, true_and, and_true] at hh0
      refine AWp.loopI (fun a : Nat => ⟨mkF 49 [(1, .ptr 0 0), (3, .ptr 1 0), (6, .p (.str p)), (24, .p (.int .i64 q)), (25, .p (.int .i64 a))], [.box [.p (.int .i64 q), .p (.sl (ws.map .str))], .box [.own 2 (out ++ missP ws p a).length], .row 9 1 ((out ++ missP ws p a).map .str) (rkOf (out ++ missP ws p a)), .box [.p (.str x)], rec]⟩)
        (fun a => a ≤ q) (fun a => q - a) 0 (by simp [go_sem, weakH_self, missP]) (by omega) ?_
      intro a ha
      refine AWp.of_awpD [] hΓ hmix (by kernel_rfl) ?_
      have hPl := missP_len ws p a
      by_cases hlta : a < q
      · have hlta' : (a : Int) < (q : Int) := by omega
        have h1 : ((a : Int) + 1).toNat - a = 1 := by omega
        have h16 : a < 16 := by omega
        have e74 := cm74 ws (p ++ [letA a]) (by omega)
        have hsuc := missP_succ ws p a
        have hkr : AObj.kill 2 rec = rec := by rw [hh0]; simp [AObj.kill, AV.kill, AV.kill.killL]
        have hs1 : sizeOK [PV.str (p ++ [letA a])] 1 := by simp [sizeOK, PV.cells]
        have ho1 : oneOK [PV.str (p ++ [letA a])] := by simp [oneOK, PV.cells, PV.isAgg]
        simp -implicitDefEqProofs only [hlta, Int.toNat_natCast, h1, sub_letters h16, go_sem]
        refine ⟨by simp only [InR]; omega, ⟨by omega, by omega⟩, by omega, callK_fn e74 (.pures rfl) ?_⟩
        cases hb : ws.any fun x => (p ++ [letA a]).isPrefixOf x
        · have hm : missA ws p a = [p ++ [letA a]] := by unfold missA begB; rw [hb]; rfl
          rw [hm] at hsuc
          have hkb : ∀ l, AObj.kill 2 (.box l) = .box (l.map (AV.kill 2)) := fun _ => rfl
          have hko : ∀ E s xs k, AObj.kill 2 (.row E s xs k) = .row E s xs k := fun _ _ _ _ => rfl
          simp -implicitDefEqProofs only [hkr, hkb, hko, AV.kill, AV.kill.killL, go_sem]
          refine ⟨⟨hs1, by omega⟩, ⟨hs1, ho1⟩, ⟨by unfold rkOf; split <;> simp, .inr (by simp), by rw [List.length_append]; omega, by rw [List.length_append]; omega⟩, by simp only [InR]; omega, a + 1, ?_, by omega, by omega⟩
          rw [hsuc, ← List.append_assoc, rkOf_snoc]
          simp
          exact ⟨by omega, .inr (.inl hkr.symm)⟩
        · have hm : missA ws p a = [] := by unfold missA begB; rw [hb]; rfl
          rw [hm, List.append_nil] at hsuc
          simp -implicitDefEqProofs only [go_sem]
          exact ⟨by simp only [InR]; omega, a + 1, by rw [hsuc]; simp [weakH_self], by omega, by omega⟩
      · have haq : a = q := by omega
        subst haq
        subst hh0
        simp -implicitDefEqProofs only [Int.lt_irrefl, Nat.lt_irrefl, go_sem]
        unfold RoundE
        simp -implicitDefEqProofs only [go_sem]
        exact ⟨5, Nat.le_refl _, .inl rfl, rfl⟩
    · rintro v h' rfl
      unfold miH RangeK
      simp -implicitDefEqProofs only [killAll, List.foldl, go_sem]
      refine AWp.of_awpD [] hΓ hmix (by kernel_rfl) ?_
      simp -implicitDefEqProofs only [List.set_cons_zero, List.set_cons_succ, go_sem]
      have hxl : x.length + 1 = w.length := by omega
      rw [hxl]
      exact ⟨by simp only [InR]; omega, i + 1, ⟨by simp, by rw [hs0], .inl ⟨by rw [hs0], by rw [hs0]⟩⟩, hlt, by omega⟩
  have hiw : i = ws.length := by omega
  subst hiw
  refine AWp.of_awpD [] hΓ hmix (by kernel_rfl) ?_
  simp -implicitDefEqProofs only [Int.lt_irrefl, Nat.lt_irrefl, go_sem]
  have hlL := missL_len (q := q) (ws := ws) (by omega) (fun x hx => (hws x hx).2.1) ws.length (Nat.le_refl _)
  unfold missing
  generalize missL q ws ws.length = out at *
  refine AWp.of_awpD [] hΓ hmix (by kernel_rfl) ?_
  simp -implicitDefEqProofs only [go_sem]
  by_cases h0 : out = []
  · subst h0
    refine callK_ac (c83n (b := 2)) (by simp) ?_
    rintro v h' ⟨rfl, rfl⟩
    simp -implicitDefEqProofs only [killAll, List.foldl, go_sem]
    refine callK_ac (c107n (b := 2)) (by simp) ?_
    rintro v h' ⟨rfl, rfl⟩
    simp -implicitDefEqProofs only [killAll, List.foldl, made_nil, go_sem]
  · have hrk : rkOf out = .own := by unfold rkOf; rw [if_neg h0]
    rw [hrk]
    refine callK_ac (cm106 out rfl (by omega)) (by simp) ?_
    rintro v h' ⟨rfl, rfl⟩
    have hsl := sortW_length out
    simp -implicitDefEqProofs only [killAll, List.foldl, List.set_cons_zero, List.set_cons_succ, go_sem]
    rw [← hsl]
    refine callK_ac (c107 (sortW out) rfl (by omega)) (by simp) ?_
    rintro v h' ⟨rfl, rfl⟩
    simp -implicitDefEqProofs only [killAll, List.foldl, List.set_cons_zero, List.set_cons_succ, made, go_sem]
end Go.Proofs.YtjjedaikbgfmmaaGreat
end

section
namespace Go.Proofs.YtjjedaikbgfmmaaGreat
open Go Go.AM
set_option maxRecDepth 100000
set_option maxHeartbeats 4000000
set_option linter.unusedSimpArgs false

def prefB (ws : List (List UInt8)) : Bool := aloneB (fun w x => x.isPrefixOf w) ws
def suffB (ws : List (List UInt8)) : Bool := aloneB (fun w x => x.isSuffixOf w) ws

theorem alone_iff {pr : List UInt8 → List UInt8 → Bool} {ws : List (List UInt8)} (hd : ws.Nodup) : aloneB pr ws = true ↔ ∀ x ∈ ws, ∀ y ∈ ws, pr x y = true → x = y := by
  have get : ∀ i (h : i < ws.length), ws.getD i [] = ws[i] := fun i h => by rw [List.getD_eq_getElem?_getD, List.getElem?_eq_getElem h, Option.getD_some]
  unfold aloneB aloneN aloneTo
  simp only [List.all_eq_true, List.mem_range, Bool.or_eq_true, decide_eq_true_eq, Bool.not_eq_true']
  constructor
  · intro h x hx y hy hp
    obtain ⟨i, hi, rfl⟩ := List.getElem_of_mem hx
    obtain ⟨k, hk, rfl⟩ := List.getElem_of_mem hy
    rcases h i hi k hk with e | e
    · subst e; rfl
    · rw [get i hi, get k hk, hp] at e; cases e
  · intro h i hi k hk
    by_cases e : i = k
    · exact .inl e
    · right
      rw [get i hi, get k hk]
      cases hp : pr ws[i] ws[k] with
      | false => rfl
      | true =>
        have := h _ (List.getElem_mem hi) _ (List.getElem_mem hk) hp
        have hp := List.pairwise_iff_getElem.1 (show ws.Pairwise (· ≠ ·) from hd)
        rcases Nat.lt_trichotomy i k with hik | hik | hik
        · exact absurd this (hp i k hi hk hik)
        · exact absurd hik e
        · exact absurd this.symm (hp k i hk hi hik)
theorem strict_nodup {ws : List (List UInt8)} (h : ws.Pairwise ltW) : ws.Nodup := List.Pairwise.imp (fun {a b} (hab : ltW a b) (e : a = b) => ltW_irrefl b (by rw [e] at hab; exact hab)) h
theorem Valid.strict {q : Int} {ws : List (List UInt8)} (hv : Valid q ws) : ws.Pairwise ltW := List.pairwise_iff_getElem.2 fun i j hi hj hij => by
  have := hv.lt i j hij hj
  rwa [List.getD_eq_getElem?_getD, List.getD_eq_getElem?_getD, List.getElem?_eq_getElem hi, List.getElem?_eq_getElem hj, Option.getD_some, Option.getD_some] at this
end Go.Proofs.YtjjedaikbgfmmaaGreat
end

section
namespace Go.Proofs.YtjjedaikbgfmmaaGreat
open Go Go.AM
set_option maxRecDepth 100000
set_option maxHeartbeats 4000000
set_option linter.unusedSimpArgs false

/-- What is missing of a code, and why not. -/
def missV (q : Int) (ws : List (List UInt8)) : List (List UInt8) := if chE q ws = 0 then missing q.toNat ws else []

theorem chE_valid {q : Int} {ws : List (List UInt8)} (hc : chE q ws = 0) : Valid q ws ∧ prefB ws = true := by
  have hv' : codeCheck q ws = 0 := by
    unfold chE at hc
    by_cases h : codeCheck q ws = 0
    · exact h
    · rw [if_neg h] at hc; omega
  refine ⟨valid_of hv', ?_⟩
  unfold chE at hc
  rw [if_pos hv'] at hc
  by_cases h : preP ws = true
  · exact h
  · rw [if_neg h] at hc; omega

theorem cm18 (q : Int) (ws : List (List UInt8)) : PFn Tryz.prog 18 [codeV q ws] [.sl ((missV q ws).map .str), .int .i64 (chE q ws)] := by
  have e61 := cm61 q ws
  refine PFn.of_body hΓ Tryz.func18 (by kernel_rfl) rfl (AWp.of_awpD [] hΓ hmix (by kernel_rfl) ?_)
  simp -implicitDefEqProofs only [Tryz.ntmps18, Tryz.results18, Nat.reduceAdd, Nat.reduceSub, codeV, go_sem]
  unfold codeV at e61
  refine callK_fn e61 (.still rfl) ?_
  unfold missV
  by_cases hc : chE q ws = 0
  · obtain ⟨hv, _⟩ := chE_valid hc
    have hq : ((q.toNat : Nat) : Int) = q := by have := hv.q2; omega
    have e62 := cm62 q.toNat ws (by rw [hq]; exact hv)
    rw [hq] at e62
    unfold codeV at e62
    rw [hc]
    simp -implicitDefEqProofs only [go_sem]
    refine callK_fn e62 (.still rfl) ?_
    simp -implicitDefEqProofs only [go_sem]
  · simp -implicitDefEqProofs only [hc, List.map_nil, go_sem]

end Go.Proofs.YtjjedaikbgfmmaaGreat
end

section
namespace Go.Proofs.YtjjedaikbgfmmaaGreat.Kn
open Go Go.AM
set_option maxRecDepth 100000
set_option linter.unusedSimpArgs false

/-- A letter. -/
def ltr (a : Nat) : UInt8 := L16.getD a 0
theorem ltr_inj {a b : Nat} (ha : a < 16) (hb : b < 16) (h : ltr a = ltr b) : a = b := by
  have key : ∀ a : Fin 16, ∀ b : Fin 16, L16.getD a.val 0 = L16.getD b.val 0 → a = b := by decide
  have := key ⟨a, ha⟩ ⟨b, hb⟩ h
  exact congrArg Fin.val this
/-- A word over the first q letters. -/
def Alph (q : Nat) (w : List UInt8) : Prop := ∀ b ∈ w, ∃ a, a < q ∧ b = ltr a

/-- How much a word takes. -/
def wtN (q : Nat) (w : List UInt8) : Nat := q ^ (32 - w.length)
/-- What the words that begin with p take. -/
def taken (q : Nat) (p : List UInt8) : List (List UInt8) → Nat
  | [] => 0
  | w :: ws => (if p.isPrefixOf w then wtN q w else 0) + taken q p ws

theorem pre_iff {p w : List UInt8} : p.isPrefixOf w = true ↔ ∃ t, w = p ++ t := by
  rw [List.isPrefixOf_iff_prefix]
  exact ⟨fun ⟨t, h⟩ => ⟨t, h.symm⟩, fun ⟨t, h⟩ => ⟨t, h.symm⟩⟩
theorem pre_snoc {p w : List UInt8} {b : UInt8} (h : (p ++ [b]).isPrefixOf w = true) : p.isPrefixOf w = true := by
  obtain ⟨t, ht⟩ := pre_iff.1 h
  exact pre_iff.2 ⟨[b] ++ t, by rw [ht, List.append_assoc]⟩
theorem pre_uniq {p w : List UInt8} {b c : UInt8} (h1 : (p ++ [b]).isPrefixOf w = true) (h2 : (p ++ [c]).isPrefixOf w = true) : b = c := by
  obtain ⟨t, ht⟩ := pre_iff.1 h1
  obtain ⟨s, hs⟩ := pre_iff.1 h2
  rw [ht, List.append_assoc, List.append_assoc] at hs
  have := List.append_cancel_left hs
  simp at this
  exact this.1
theorem pre_more {p w : List UInt8} (h : p.isPrefixOf w = true) (hne : w ≠ p) : ∃ b, b ∈ w ∧ (p ++ [b]).isPrefixOf w = true := by
  obtain ⟨t, ht⟩ := pre_iff.1 h
  cases t with
  | nil => exact absurd (by simpa using ht) hne
  | cons b t => exact ⟨b, by rw [ht]; simp, pre_iff.2 ⟨t, by rw [ht]; simp⟩⟩

theorem sumN_add (F G : Nat → Nat) : ∀ n, sumN (fun j => F j + G j) n = sumN F n + sumN G n
  | 0 => rfl
  | n + 1 => by
    have ih := sumN_add F G n
    have e1 : sumN (fun j => F j + G j) (n + 1) = sumN (fun j => F j + G j) n + (F n + G n) := rfl
    have e2 : sumN F (n + 1) = sumN F n + F n := rfl
    have e3 : sumN G (n + 1) = sumN G n + G n := rfl
    omega
theorem sumN_one {F : Nat → Nat} {k c : Nat} : ∀ {n : Nat}, k < n → F k = c → (∀ j, j < n → j ≠ k → F j = 0) → sumN F n = c
  | 0, h, _, _ => by omega
  | n + 1, h, hc, h0 => by
    have e : sumN F (n + 1) = sumN F n + F n := rfl
    by_cases hk : k = n
    · subst hk
      rw [e, sumN_zero (fun j hj => h0 j (by omega) (by omega)), hc, Nat.zero_add]
    · rw [e, sumN_one (n := n) (by omega) hc (fun j hj hne => h0 j (by omega) hne), h0 n (by omega) (fun h => hk h.symm), Nat.add_zero]
theorem sumN_le {F : Nat → Nat} {B : Nat} : ∀ {n : Nat}, (∀ j, j < n → F j ≤ B) → sumN F n ≤ n * B
  | 0, _ => Nat.zero_le _
  | n + 1, h => by
    have e : sumN F (n + 1) = sumN F n + F n := rfl
    have := sumN_le (n := n) (fun j hj => h j (by omega))
    have := h n (by omega)
    rw [e, Nat.succ_mul]; omega
theorem sumN_full {F : Nat → Nat} {B : Nat} : ∀ {n : Nat}, (∀ j, j < n → F j ≤ B) → sumN F n = n * B → ∀ j, j < n → F j = B
  | 0, _, _ => fun j hj => by omega
  | n + 1, h, hs => by
    have e : sumN F (n + 1) = sumN F n + F n := rfl
    have h1 := sumN_le (n := n) (fun j hj => h j (by omega))
    have h2 := h n (by omega)
    rw [e, Nat.succ_mul] at hs
    have ih := sumN_full (n := n) (fun j hj => h j (by omega)) (by omega)
    intro j hj
    by_cases hjn : j = n
    · subst hjn; omega
    · exact ih j (by omega)
theorem sumN_const {F : Nat → Nat} {B : Nat} : ∀ {n : Nat}, (∀ j, j < n → F j = B) → sumN F n = n * B
  | 0, _ => by simp [sumN]
  | n + 1, h => by
    have e : sumN F (n + 1) = sumN F n + F n := rfl
    rw [e, sumN_const (n := n) (fun j hj => h j (by omega)), h n (by omega), Nat.succ_mul]

/-- A word that is none of the code: what begins with it goes on with a letter. -/
theorem taken_split {q : Nat} (hq : q ≤ 16) (p : List UInt8) : ∀ {ws : List (List UInt8)}, (∀ w ∈ ws, Alph q w) → (∀ w ∈ ws, w ≠ p) → taken q p ws = sumN (fun a => taken q (p ++ [ltr a]) ws) q
  | [], _, _ => by
    symm
    exact sumN_zero fun _ _ => rfl
  | w :: ws, hA, hne => by
    have ih := taken_split hq p (ws := ws) (fun x hx => hA x (by simp [hx])) (fun x hx => hne x (by simp [hx]))
    show (if p.isPrefixOf w then wtN q w else 0) + taken q p ws = sumN (fun a => (if (p ++ [ltr a]).isPrefixOf w then wtN q w else 0) + taken q (p ++ [ltr a]) ws) q
    rw [sumN_add, ← ih]
    congr 1
    by_cases hp : p.isPrefixOf w = true
    · obtain ⟨b, hb, hbw⟩ := pre_more hp (hne w (by simp))
      obtain ⟨a, ha, rfl⟩ := hA w (by simp) b hb
      rw [if_pos hp]
      symm
      refine sumN_one ha (by simp only [hbw, if_true]) fun j hj hja => ?_
      rw [if_neg]
      intro hjw
      exact hja (ltr_inj (by omega) (by omega) (pre_uniq hjw hbw))
    · rw [if_neg hp]
      symm
      refine sumN_zero fun j hj => ?_
      rw [if_neg]
      exact fun h => hp (pre_snoc h)

/-- A prefix code, as a list. -/
structure PCode (q : Nat) (ws : List (List UInt8)) : Prop where
  q0 : 0 < q
  q16 : q ≤ 16
  nodup : ws.Nodup
  free : ∀ x ∈ ws, ∀ y ∈ ws, y.isPrefixOf x = true → x = y
  alph : ∀ w ∈ ws, Alph q w
  short : ∀ w ∈ ws, w.length ≤ 32

theorem taken_none {q : Nat} {p : List UInt8} : ∀ {ws : List (List UInt8)}, (∀ w ∈ ws, ¬ p.isPrefixOf w = true) → taken q p ws = 0
  | [], _ => rfl
  | w :: ws, h => by
    show (if p.isPrefixOf w then wtN q w else 0) + taken q p ws = 0
    rw [if_neg (h w (by simp)), taken_none (fun x hx => h x (by simp [hx]))]
theorem taken_word {q : Nat} {p : List UInt8} : ∀ {ws : List (List UInt8)}, p ∈ ws → ws.Nodup → (∀ x ∈ ws, p.isPrefixOf x = true → x = p) → taken q p ws = wtN q p
  | w :: ws, hp, hd, hf => by
    show (if p.isPrefixOf w then wtN q w else 0) + taken q p ws = _
    have hd' := List.nodup_cons.1 hd
    by_cases hw : p.isPrefixOf w = true
    · have e := hf w (by simp) hw
      subst e
      rw [if_pos hw, taken_none (fun x hx h => ?_), Nat.add_zero]
      have := hf x (by simp [hx]) h
      subst this
      exact hd'.1 hx
    · rw [if_neg hw, Nat.zero_add]
      have hne : p ≠ w := fun e => hw (by rw [e]; exact List.isPrefixOf_iff_prefix.2 (List.prefix_refl _))
      exact taken_word (by simpa [hne] using hp) hd'.2 (fun x hx => hf x (by simp [hx]))
theorem taken_in {q : Nat} (hq : 0 < q) {p w : List UInt8} : ∀ {ws : List (List UInt8)}, w ∈ ws → p.isPrefixOf w = true → 0 < taken q p ws
  | x :: ws, hw, hp => by
    show 0 < (if p.isPrefixOf x then wtN q x else 0) + taken q p ws
    rcases List.mem_cons.1 hw with rfl | hw
    · rw [if_pos hp]
      have : 0 < wtN q w := Nat.pow_pos hq
      omega
    · have := taken_in hq hw hp
      omega
theorem taken_some {q : Nat} {p : List UInt8} {ws : List (List UInt8)} (h : taken q p ws ≠ 0) : ∃ w ∈ ws, p.isPrefixOf w = true := by
  by_cases hx : ∃ w ∈ ws, p.isPrefixOf w = true
  · exact hx
  · exact absurd (taken_none fun w hw hp => hx ⟨w, hw, hp⟩) h

theorem PCode.word {q : Nat} {ws : List (List UInt8)} (h : PCode q ws) {p : List UInt8} (hp : p ∈ ws) : taken q p ws = wtN q p :=
  taken_word hp h.nodup fun x hx hpx => h.free x hx p hp hpx

theorem PCode.le {q : Nat} {ws : List (List UInt8)} (h : PCode q ws) : ∀ (d : Nat) (p : List UInt8), p.length + d = 32 → taken q p ws ≤ q ^ d
  | d, p, hl => by
    by_cases hp : p ∈ ws
    · rw [h.word hp]
      unfold wtN
      rw [show 32 - p.length = d by omega]
      exact Nat.le_refl _
    · have hne : ∀ w ∈ ws, w ≠ p := fun w hw e => hp (e ▸ hw)
      cases d with
      | zero =>
        rw [taken_none fun w hw hpw => ?_]
        · exact Nat.zero_le _
        · obtain ⟨b, _, hb⟩ := pre_more hpw (hne w hw)
          have h1 := (List.isPrefixOf_iff_prefix.1 hb).length_le
          have h2 := h.short w hw
          simp at h1
          omega
      | succ d =>
        rw [taken_split h.q16 p h.alph hne, Nat.pow_succ, Nat.mul_comm]
        exact sumN_le fun a _ => PCode.le h d (p ++ [ltr a]) (by simp; omega)

/-- Proper beginnings of words. -/
def Inner (ws : List (List UInt8)) (p : List UInt8) : Prop := ∃ w ∈ ws, p.isPrefixOf w = true ∧ p.length < w.length
/-- Nothing is missing. -/
def Whole (q : Nat) (ws : List (List UInt8)) : Prop := ∀ p, Inner ws p → ∀ a, a < q → Inner ws (p ++ [ltr a]) ∨ p ++ [ltr a] ∈ ws

theorem PCode.outer {q : Nat} {ws : List (List UInt8)} (h : PCode q ws) {p : List UInt8} (hp : Inner ws p) : p ∉ ws := fun hm => by
  obtain ⟨w, hw, hpw, hl⟩ := hp
  have := h.free w hw p hm hpw
  rw [this] at hl
  omega

theorem PCode.of_whole {q : Nat} {ws : List (List UInt8)} (h : PCode q ws) (hw : Whole q ws) : ∀ (d : Nat) (p : List UInt8), p.length + d = 32 → (Inner ws p ∨ p ∈ ws) → taken q p ws = q ^ d
  | d, p, hl, hp => by
    by_cases hm : p ∈ ws
    · rw [h.word hm]
      unfold wtN
      rw [show 32 - p.length = d by omega]
    · have hi : Inner ws p := hp.elim id fun e => absurd e hm
      have hne : ∀ w ∈ ws, w ≠ p := fun w hw e => hm (e ▸ hw)
      cases d with
      | zero =>
        obtain ⟨w, hw1, hw2, hw3⟩ := hi
        have := h.short w hw1
        omega
      | succ d =>
        rw [taken_split h.q16 p h.alph hne, Nat.pow_succ, Nat.mul_comm]
        exact sumN_const fun a ha => PCode.of_whole h hw d (p ++ [ltr a]) (by simp; omega) (hw p hi a ha)

theorem inner_init {ws : List (List UInt8)} {p : List UInt8} {b : UInt8} (h : Inner ws (p ++ [b])) : Inner ws p := by
  obtain ⟨w, h1, h2, h3⟩ := h
  exact ⟨w, h1, pre_snoc h2, by simp at h3; omega⟩

theorem PCode.full {q : Nat} {ws : List (List UInt8)} (h : PCode q ws) (hT : taken q [] ws = q ^ 32) : ∀ (n : Nat) (p : List UInt8), p.length = n → Inner ws p → taken q p ws = q ^ (32 - n) ∧ ∀ a, a < q → taken q (p ++ [ltr a]) ws = q ^ (32 - (n + 1))
  | n, p, hn, hi => by
    have hm := h.outer hi
    have hne : ∀ w ∈ ws, w ≠ p := fun w hw e => hm (e ▸ hw)
    have hlen : n + 1 ≤ 32 := by
      obtain ⟨w, h1, h2, h3⟩ := hi
      have := h.short w h1
      omega
    have hfull : taken q p ws = q ^ (32 - n) := by
      cases n with
      | zero =>
        have : p = [] := List.length_eq_zero_iff.1 hn
        subst this
        exact hT
      | succ n =>
        obtain ⟨x, b, rfl⟩ : ∃ x b, p = x ++ [b] := by
          have hp0 : p ≠ [] := fun e => by subst e; simp at hn
          exact ⟨p.dropLast, p.getLast hp0, (List.dropLast_concat_getLast hp0).symm⟩
        have hxl : x.length = n := by simpa using hn
        have ih := PCode.full h hT n x hxl (inner_init hi)
        obtain ⟨w, h1, h2, h3⟩ := hi
        have hbw : b ∈ w := by
          obtain ⟨t, rfl⟩ := pre_iff.1 h2
          simp
        obtain ⟨a, ha, rfl⟩ := h.alph w h1 b hbw
        exact ih.2 a ha
    refine ⟨hfull, ?_⟩
    rw [taken_split h.q16 p h.alph hne, show 32 - n = (32 - (n + 1)) + 1 by omega, Nat.pow_succ, Nat.mul_comm] at hfull
    exact sumN_full (fun a _ => h.le (32 - (n + 1)) (p ++ [ltr a]) (by simp; omega)) hfull

theorem PCode.whole_of {q : Nat} {ws : List (List UInt8)} (h : PCode q ws) (hT : taken q [] ws = q ^ 32) : Whole q ws := fun p hi a ha => by
  have h1 := (h.full hT p.length p rfl hi).2 a ha
  have h2 : taken q (p ++ [ltr a]) ws ≠ 0 := by
    rw [h1]; exact Nat.ne_of_gt (Nat.pow_pos h.q0)
  obtain ⟨w, hw, hp⟩ := taken_some h2
  by_cases e : w = p ++ [ltr a]
  · exact .inr (e ▸ hw)
  · refine .inl ⟨w, hw, hp, ?_⟩
    obtain ⟨b, _, hb⟩ := pre_more hp e
    have := (List.isPrefixOf_iff_prefix.1 hb).length_le
    simp at this ⊢
    omega

/-- The measure is 1 exactly if nothing is missing. -/
theorem PCode.one_iff {q : Nat} {ws : List (List UInt8)} (h : PCode q ws) (hi : Inner ws []) : taken q [] ws = q ^ 32 ↔ Whole q ws :=
  ⟨h.whole_of, fun hw => h.of_whole hw 32 [] rfl (.inl hi)⟩
theorem PCode.one_le {q : Nat} {ws : List (List UInt8)} (h : PCode q ws) : taken q [] ws ≤ q ^ 32 := h.le 32 [] rfl

theorem taken_sum (q : Nat) : ∀ ws : List (List UInt8), taken q [] ws = ((ws.map List.length).map fun n => q ^ (32 - n)).sum
  | [] => rfl
  | w :: ws => by
    show (if ([] : List UInt8).isPrefixOf w then wtN q w else 0) + taken q [] ws = _
    rw [if_pos (by simp [List.isPrefixOf]), taken_sum q ws]
    simp [wtN]
end Go.Proofs.YtjjedaikbgfmmaaGreat.Kn
end

section
namespace Go.Proofs.YtjjedaikbgfmmaaGreat
open Go Go.AM
set_option maxRecDepth 100000
set_option linter.unusedSimpArgs false

theorem ixB_hit (c : UInt8) : ∀ (l : List UInt8) (n : Nat), 0 ≤ ixB c l n → ∃ k : Nat, ixB c l n = ((n + k : Nat) : Int) ∧ l.getD k 0 = c
  | [], n, h => by simp [ixB] at h
  | a :: l, n, h => by
    unfold ixB at h ⊢
    cases hb : Nat.beq a.toNat c.toNat with
    | true =>
      rw [hb] at h
      exact ⟨0, by simp, by simpa using UInt8.toNat_inj.1 (Nat.eq_of_beq_eq_true hb)⟩
    | false =>
      rw [hb] at h
      obtain ⟨k, h1, h2⟩ := ixB_hit c l (n + 1) h
      exact ⟨k + 1, by simp only [h1]; omega, by simpa using h2⟩
theorem alph_of {q : Int} {w : List UInt8} (h : wordCheck q w = 0) : Kn.Alph q.toNat w := fun b hb => by
  have hw : okW q w = true := by
    unfold wordCheck at h
    split at h
    · cases h
    · split at h
      · cases h
      · split at h
        · assumption
        · cases h
  have h1 := List.all_eq_true.1 hw b hb
  unfold okB at h1
  simp only [Bool.and_eq_true, decide_eq_true_eq] at h1
  obtain ⟨k, h3, h4⟩ := ixB_hit b L16 0 h1.1
  exact ⟨k, by omega, h4.symm⟩
theorem ixB_ltr {a : Nat} (ha : a < 16) : ixB (Kn.ltr a) L16 0 = a := by
  have key : ∀ a : Fin 16, ixB (L16.getD a.val 0) L16 0 = (a.val : Int) := by decide
  exact key ⟨a, ha⟩
theorem word_of {q : Nat} {w : List UInt8} (hq1 : 1 ≤ q) (hq : q ≤ 16) (hl : w.length ≤ 65536) (h : Kn.Alph q w) : wordCheck q w = 0 := by
  unfold wordCheck
  rw [if_neg (by omega), if_neg (by omega), if_pos]
  refine List.all_eq_true.2 fun b hb => ?_
  obtain ⟨a, h1, rfl⟩ := h b hb
  unfold okB
  rw [ixB_ltr (by omega)]
  simp only [Bool.and_eq_true, decide_eq_true_eq]
  omega

theorem free_of {ws : List (List UInt8)} (hn : ws.Nodup) (hp : prefB ws = true) : ∀ x ∈ ws, ∀ y ∈ ws, y.isPrefixOf x = true → x = y := fun x hx y hy h => (alone_iff (pr := fun w x => x.isPrefixOf w) hn).1 hp x hx y hy h
theorem pref_of {ws : List (List UInt8)} (hn : ws.Nodup) (h : ∀ x ∈ ws, ∀ y ∈ ws, y.isPrefixOf x = true → x = y) : prefB ws = true := (alone_iff (pr := fun w x => x.isPrefixOf w) hn).2 h
theorem pcode_of {q : Int} {ws : List (List UInt8)} (hv : Valid q ws) (hp : prefB ws = true) : Kn.PCode q.toNat ws := by
  have h2 := hv.q2
  have h16 := hv.q16
  exact { q0 := by omega, q16 := by omega, nodup := strict_nodup hv.strict, free := free_of (strict_nodup hv.strict) hp, alph := fun w hw => alph_of (hv.words w hw).2.2, short := fun w hw => (hv.words w hw).2.1 }

theorem made_len {l : List (List UInt8)} (h : l.Nodup) : (made l).length = l.length := by
  have e : made l = sortW l := strict_unique (made_strict l) (sortW_strict h) fun x => by
    rw [mem_made]
    exact (List.mergeSort_perm l _).mem_iff.symm
  rw [e, sortW_length]

/-- A word that is missing. -/
def Miss (q : Nat) (ws : List (List UInt8)) (m : List UInt8) : Prop := ∃ p a, Kn.Inner ws p ∧ a < q ∧ m = p ++ [Kn.ltr a] ∧ begB ws m = false
theorem mem_missing {q : Nat} {ws : List (List UInt8)} {m : List UInt8} : m ∈ missing q ws ↔ Miss q ws m := by
  unfold missing Miss
  rw [mem_made]
  unfold missL missW missP missA
  simp only [List.mem_flatMap, List.mem_range]
  constructor
  · rintro ⟨i, hi, n, hn, a, ha, hm⟩
    split at hm
    · cases hm
    · rename_i hb
      have hm := List.mem_singleton.1 hm
      rw [List.getD_eq_getElem?_getD, List.getElem?_eq_getElem hi, Option.getD_some] at hn hm
      refine ⟨ws[i].take n, a, ⟨ws[i], List.getElem_mem hi, List.isPrefixOf_iff_prefix.2 (List.take_prefix _ _), by rw [List.length_take]; omega⟩, ha, hm, ?_⟩
      rw [List.getD_eq_getElem?_getD, List.getElem?_eq_getElem hi, Option.getD_some] at hb
      rw [hm]; exact eq_false_of_ne_true hb
  · rintro ⟨p, a, ⟨w, hw, hpw, hl⟩, ha, rfl, hb⟩
    obtain ⟨i, hi, rfl⟩ := List.getElem_of_mem hw
    have htk : ws[i].take p.length = p := (List.prefix_iff_eq_take.1 (List.isPrefixOf_iff_prefix.1 hpw)).symm
    refine ⟨i, hi, p.length, ?_, a, ha, ?_⟩
    · rw [List.getD_eq_getElem?_getD, List.getElem?_eq_getElem hi, Option.getD_some]; exact hl
    · rw [List.getD_eq_getElem?_getD, List.getElem?_eq_getElem hi, Option.getD_some, htk, if_neg]
      · exact List.mem_singleton.2 rfl
      · have e : p ++ [letA a] = p ++ [Kn.ltr a] := rfl
        rw [e, hb]; decide
theorem begB_iff {ws : List (List UInt8)} {x : List UInt8} : begB ws x = true ↔ ∃ w ∈ ws, x <+: w := by
  unfold begB
  rw [List.any_eq_true]
  exact ⟨fun ⟨w, h1, h2⟩ => ⟨w, h1, List.isPrefixOf_iff_prefix.1 h2⟩, fun ⟨w, h1, h2⟩ => ⟨w, h1, List.isPrefixOf_iff_prefix.2 h2⟩⟩

/-- The words that a word leads to, with k letters more. -/
def extL (q : Nat) : List UInt8 → Nat → List (List UInt8)
  | w, 0 => [w]
  | w, k + 1 => (List.range q).flatMap fun a => extL q (w ++ [letA a]) k
theorem mem_extL {q : Nat} : ∀ {k : Nat} {w x : List UInt8}, x ∈ extL q w k ↔ ∃ u, x = w ++ u ∧ u.length = k ∧ Kn.Alph q u
  | 0, w, x => by
    unfold extL
    rw [List.mem_singleton]
    constructor
    · rintro rfl; exact ⟨[], by simp, rfl, fun b hb => by cases hb⟩
    · rintro ⟨u, rfl, hu, _⟩; rw [List.eq_nil_of_length_eq_zero hu, List.append_nil]
  | k + 1, w, x => by
    unfold extL
    simp only [List.mem_flatMap, List.mem_range]
    constructor
    · rintro ⟨a, ha, hx⟩
      obtain ⟨u, rfl, h1, h2⟩ := mem_extL.1 hx
      refine ⟨letA a :: u, by simp, by simp [h1], fun b hb => ?_⟩
      rcases List.mem_cons.1 hb with rfl | hb
      · exact ⟨a, ha, rfl⟩
      · exact h2 b hb
    · rintro ⟨u, rfl, h1, h2⟩
      cases u with
      | nil => simp at h1
      | cons b u =>
        obtain ⟨a, ha, rfl⟩ := h2 b (by simp)
        exact ⟨a, ha, mem_extL.2 ⟨u, by simp [letA, Kn.ltr], by simpa using h1, fun c hc => h2 c (by simp [hc])⟩⟩
theorem extL_nodup {q : Nat} (hq : q ≤ 16) : ∀ (k : Nat) (w : List UInt8), (extL q w k).Nodup
  | 0, w => by unfold extL; simp
  | k + 1, w => by
    unfold extL
    refine List.pairwise_flatMap.2 ⟨fun a _ => extL_nodup hq k _, ?_⟩
    refine List.Pairwise.imp_of_mem ?_ (List.nodup_range (n := q))
    intro a b ha hb hne x hx y hy e
    subst e
    obtain ⟨u, rfl, _, _⟩ := mem_extL.1 hx
    obtain ⟨v, hv, _, _⟩ := mem_extL.1 hy
    rw [List.append_assoc, List.append_assoc] at hv
    have := List.append_cancel_left hv
    simp only [List.singleton_append, List.cons.injEq] at this
    exact hne (Kn.ltr_inj (by have := List.mem_range.1 ha; omega) (by have := List.mem_range.1 hb; omega) this.1)

/-- The words that are added, all of at least n letters. -/
def embL (q : Nat) (ws : List (List UInt8)) (n : Nat) : List (List UInt8) := (missing q ws).flatMap fun w => extL q w (n - w.length)
theorem mem_embL {q : Nat} {ws : List (List UInt8)} {n : Nat} {x : List UInt8} : x ∈ embL q ws n ↔ ∃ m u, Miss q ws m ∧ x = m ++ u ∧ u.length = n - m.length ∧ Kn.Alph q u := by
  unfold embL
  simp only [List.mem_flatMap, mem_missing, mem_extL]
  constructor
  · rintro ⟨m, h1, u, h2, h3, h4⟩; exact ⟨m, u, h1, h2, h3, h4⟩
  · rintro ⟨m, u, h1, h2, h3, h4⟩; exact ⟨m, h1, u, h2, h3, h4⟩
theorem embL_one (q : Nat) (ws : List (List UInt8)) : embL q ws 1 = missing q ws := by
  have key : ∀ l : List (List UInt8), (∀ w ∈ l, w ≠ []) → l.flatMap (fun w => extL q w (1 - w.length)) = l := by
    intro l h
    induction l with
    | nil => rfl
    | cons w l ih =>
      rw [List.flatMap_cons, ih fun x hx => h x (by simp [hx])]
      have : 1 - w.length = 0 := by have := List.length_pos_iff.2 (h w (by simp)); omega
      rw [this]; rfl
  refine key _ fun w hw e => ?_
  obtain ⟨p, a, _, _, h, _⟩ := mem_missing.1 hw
  rw [e] at h
  exact absurd h.symm (by simp)

theorem miss_begun {q : Nat} {ws : List (List UInt8)} (_ : Kn.PCode q ws) {m x : List UInt8} (hm : Miss q ws m) (hx : x ∈ ws) : ¬ m <+: x := fun h => by
  obtain ⟨p, a, _, _, _, hb⟩ := hm
  rw [begB_iff.2 ⟨x, hx, h⟩] at hb; cases hb

section
variable {q : Nat} {ws : List (List UInt8)} (hc : Kn.PCode q ws)
include hc
theorem miss_word {m x : List UInt8} (hm : Miss q ws m) (hx : x ∈ ws) : ¬ x <+: m := fun h => by
  obtain ⟨p, a, ⟨w, hw, hpw, hl⟩, ha, rfl, hb⟩ := hm
  rcases List.prefix_concat_iff.1 h with h1 | h1
  · have : begB ws (p ++ [Kn.ltr a]) = true := begB_iff.2 ⟨x, hx, by rw [h1]; exact List.prefix_refl _⟩
    rw [hb] at this; cases this
  · have h2 : x <+: w := h1.trans (List.isPrefixOf_iff_prefix.1 hpw)
    have h3 := hc.free w hw x hx (List.isPrefixOf_iff_prefix.2 h2)
    have h4 := h1.length_le
    rw [← h3] at h4; omega
theorem miss_miss {m1 m2 : List UInt8} (h1 : Miss q ws m1) (h2 : Miss q ws m2) (h : m1 <+: m2) : m1 = m2 := by
  obtain ⟨p, a, ⟨w, hw, hpw, hl⟩, ha, rfl, hb⟩ := h2
  rcases List.prefix_concat_iff.1 h with h3 | h3
  · exact h3
  · exact absurd (h3.trans (List.isPrefixOf_iff_prefix.1 hpw)) (miss_begun hc h1 hw)
theorem miss_short {m : List UInt8} (hm : Miss q ws m) : m.length ≤ 32 ∧ m ≠ [] ∧ Kn.Alph q m := by
  obtain ⟨p, a, ⟨w, hw, hpw, hl⟩, ha, rfl, hb⟩ := hm
  have h1 := hc.short w hw
  refine ⟨by simp; omega, by simp, fun b hb => ?_⟩
  rcases List.mem_append.1 hb with h2 | h2
  · exact hc.alph w hw b ((List.isPrefixOf_iff_prefix.1 hpw).subset h2)
  · exact ⟨a, ha, List.mem_singleton.1 h2⟩

theorem all_free {n : Nat} : ∀ x ∈ ws ++ embL q ws n, ∀ y ∈ ws ++ embL q ws n, y.isPrefixOf x = true → x = y := by
  intro x hx y hy h
  have h := List.isPrefixOf_iff_prefix.1 h
  rcases List.mem_append.1 hx with hx | hx <;> rcases List.mem_append.1 hy with hy | hy
  · exact hc.free x hx y hy (List.isPrefixOf_iff_prefix.2 h)
  · obtain ⟨m, u, hm, rfl, _, _⟩ := mem_embL.1 hy
    exact absurd ((List.prefix_append m u).trans h) (miss_begun hc hm hx)
  · obtain ⟨m, u, hm, rfl, _, _⟩ := mem_embL.1 hx
    rcases List.prefix_or_prefix_of_prefix h (List.prefix_append m u) with h1 | h1
    · exact absurd h1 (miss_word hc hm hy)
    · exact absurd h1 (miss_begun hc hm hy)
  · obtain ⟨m, u, hm, rfl, hu, _⟩ := mem_embL.1 hx
    obtain ⟨m', v, hm', rfl, hv, _⟩ := mem_embL.1 hy
    have he : m' = m := by
      rcases List.prefix_or_prefix_of_prefix ((List.prefix_append m' v).trans h) (List.prefix_append m u) with h1 | h1
      · exact miss_miss hc hm' hm h1
      · exact (miss_miss hc hm hm' h1).symm
    subst he
    exact (h.eq_of_length (by simp; omega)).symm

theorem all_whole {n : Nat} : Kn.Whole q (ws ++ embL q ws n) := by
  have hq0 := hc.q0
  have fill : ∀ k, Kn.Alph q (List.replicate k (Kn.ltr 0)) := fun k b hb => ⟨0, hq0, (List.mem_replicate.1 hb).2⟩
  have step : ∀ m u a, Miss q ws m → Kn.Alph q u → u.length < n - m.length → a < q → Kn.Inner (ws ++ embL q ws n) (m ++ u ++ [Kn.ltr a]) ∨ m ++ u ++ [Kn.ltr a] ∈ ws ++ embL q ws n := by
    intro m u a hm hu hl ha
    have hua : Kn.Alph q (u ++ [Kn.ltr a]) := fun b hb => by
      rcases List.mem_append.1 hb with h | h
      · exact hu b h
      · exact ⟨a, ha, List.mem_singleton.1 h⟩
    by_cases he : u.length + 1 = n - m.length
    · exact .inr (List.mem_append_right _ (mem_embL.2 ⟨m, u ++ [Kn.ltr a], hm, by rw [List.append_assoc], by simpa using he, hua⟩))
    · left
      refine ⟨m ++ u ++ [Kn.ltr a] ++ List.replicate (n - m.length - (u.length + 1)) (Kn.ltr 0), List.mem_append_right _ (mem_embL.2 ⟨m, u ++ [Kn.ltr a] ++ List.replicate (n - m.length - (u.length + 1)) (Kn.ltr 0), hm, by simp, by simp; omega, fun b hb => ?_⟩), List.isPrefixOf_iff_prefix.2 (List.prefix_append _ _), by simp; omega⟩
      rcases List.mem_append.1 hb with h | h
      · exact hua b h
      · exact fill _ b h
  have inner : ∀ p a, Kn.Inner ws p → a < q → Kn.Inner (ws ++ embL q ws n) (p ++ [Kn.ltr a]) ∨ p ++ [Kn.ltr a] ∈ ws ++ embL q ws n := by
    intro p a hp ha
    cases hb : begB ws (p ++ [Kn.ltr a])
    · have hm : Miss q ws (p ++ [Kn.ltr a]) := ⟨p, a, hp, ha, rfl, hb⟩
      by_cases hn : n - (p ++ [Kn.ltr a]).length = 0
      · exact .inr (List.mem_append_right _ (mem_embL.2 ⟨_, [], hm, by simp, by rw [hn]; rfl, fun b hb => by cases hb⟩))
      · left
        refine ⟨p ++ [Kn.ltr a] ++ List.replicate (n - (p ++ [Kn.ltr a]).length) (Kn.ltr 0), List.mem_append_right _ (mem_embL.2 ⟨_, _, hm, rfl, by simp, fill _⟩), List.isPrefixOf_iff_prefix.2 (List.prefix_append _ _), by simp at hn ⊢; omega⟩
    · obtain ⟨w, hw, hpw⟩ := begB_iff.1 hb
      by_cases he : p ++ [Kn.ltr a] = w
      · exact .inr (List.mem_append_left _ (he ▸ hw))
      · refine .inl ⟨w, List.mem_append_left _ hw, List.isPrefixOf_iff_prefix.2 hpw, ?_⟩
        have h1 := hpw.length_le
        by_cases h2 : (p ++ [Kn.ltr a]).length = w.length
        · exact absurd (hpw.eq_of_length h2) he
        · omega
  rintro p ⟨x, hx, hpx, hl⟩ a ha
  have hpx := List.isPrefixOf_iff_prefix.1 hpx
  rcases List.mem_append.1 hx with hx | hx
  · exact inner p a ⟨x, hx, List.isPrefixOf_iff_prefix.2 hpx, hl⟩ ha
  · obtain ⟨m, u, hm, rfl, hu, hal⟩ := mem_embL.1 hx
    rcases List.prefix_or_prefix_of_prefix hpx (List.prefix_append m u) with h1 | h1
    · by_cases h2 : p = m
      · subst h2
        have := step p [] a hm (fun b hb => by cases hb) (by simp at hl ⊢; omega) ha
        simpa using this
      · obtain ⟨p2, a2, ⟨w, hw, hpw, hl2⟩, ha2, rfl, hb⟩ := hm
        rcases List.prefix_concat_iff.1 h1 with h3 | h3
        · exact absurd h3 h2
        · exact inner p a ⟨w, hw, List.isPrefixOf_iff_prefix.2 (h3.trans (List.isPrefixOf_iff_prefix.1 hpw)), by have := h3.length_le; omega⟩ ha
    · obtain ⟨v, rfl⟩ := h1
      have h2 : v <+: u := (List.prefix_append_right_inj m).1 hpx
      refine step m v a hm (fun b hb => hal b (h2.subset hb)) ?_ ha
      simp at hl
      omega

theorem all_pcode {n : Nat} (hn : n ≤ 32) : Kn.PCode q (made (ws ++ embL q ws n)) := by
  refine { q0 := hc.q0, q16 := hc.q16, nodup := strict_nodup (made_strict _), free := fun x hx y hy => all_free hc x (mem_made.1 hx) y (mem_made.1 hy), alph := fun w hw => ?_, short := fun w hw => ?_ }
  · rcases List.mem_append.1 (mem_made.1 hw) with h | h
    · exact hc.alph w h
    · obtain ⟨m, u, hm, rfl, _, hal⟩ := mem_embL.1 h
      intro b hb
      rcases List.mem_append.1 hb with h1 | h1
      · exact (miss_short hc hm).2.2 b h1
      · exact hal b h1
  · rcases List.mem_append.1 (mem_made.1 hw) with h | h
    · exact hc.short w h
    · obtain ⟨m, u, hm, rfl, hu, _⟩ := mem_embL.1 h
      have := (miss_short hc hm).1
      simp; omega
theorem all_nodup {n : Nat} : (ws ++ embL q ws n).Nodup := by
  refine List.nodup_append.2 ⟨hc.nodup, ?_, fun x hx y hy e => ?_⟩
  · unfold embL
    refine List.pairwise_flatMap.2 ⟨fun m _ => extL_nodup hc.q16 _ _, ?_⟩
    refine List.Pairwise.imp_of_mem ?_ (strict_nodup (made_strict _))
    intro m1 m2 h1 h2 hne x hx y hy e
    subst e
    have h1 := mem_missing.1 h1
    have h2 := mem_missing.1 h2
    obtain ⟨u, rfl, _, _⟩ := mem_extL.1 hx
    obtain ⟨v, hv, _, _⟩ := mem_extL.1 hy
    rcases List.prefix_or_prefix_of_prefix (List.prefix_append m1 u) (hv ▸ List.prefix_append m2 v) with h3 | h3
    · exact hne (miss_miss hc h1 h2 h3)
    · exact hne (miss_miss hc h2 h1 h3).symm
  · subst e
    obtain ⟨m, u, hm, rfl, _, _⟩ := mem_embL.1 hy
    exact miss_begun hc hm hx (List.prefix_append m u)
end

theorem whole_made {q : Nat} {l : List (List UInt8)} (h : Kn.Whole q l) : Kn.Whole q (made l) := by
  have e : ∀ p, Kn.Inner (made l) p ↔ Kn.Inner l p := fun p => ⟨fun ⟨w, h1, h2⟩ => ⟨w, mem_made.1 h1, h2⟩, fun ⟨w, h1, h2⟩ => ⟨w, mem_made.2 h1, h2⟩⟩
  intro p hp a ha
  rcases h p ((e p).1 hp) a ha with h1 | h1
  · exact .inl ((e _).2 h1)
  · exact .inr (mem_made.2 h1)
theorem missing_nil {q : Nat} {ws : List (List UInt8)} (h : Kn.Whole q ws) : missing q ws = [] := by
  refine List.eq_nil_iff_forall_not_mem.2 fun m hm => ?_
  obtain ⟨p, a, hp, ha, rfl, hb⟩ := mem_missing.1 hm
  have : begB ws (p ++ [Kn.ltr a]) = true := by
    rcases h p hp a ha with ⟨w, h1, h2, _⟩ | h1
    · exact begB_iff.2 ⟨w, h1, List.isPrefixOf_iff_prefix.1 h2⟩
    · exact begB_iff.2 ⟨_, h1, List.prefix_refl _⟩
  rw [hb] at this; cases this
end Go.Proofs.YtjjedaikbgfmmaaGreat
end

section
namespace Go.Proofs.YtjjedaikbgfmmaaGreat
open Go Go.AM
set_option maxRecDepth 100000
set_option maxHeartbeats 4000000
set_option linter.unusedSimpArgs false

theorem c66p (A B : List (List UInt8)) (hn : (A ++ B).length ≤ 1000000) : PFn Tryz.prog 66 [.sl [.sl (A.map .str), .sl (B.map .str)]] [.sl ((A ++ B).map .str)] := by
  refine .of_row (E := 9) (s := 1) ((c29b (h := []) rfl A B hn).monoR ?_)
  rintro v h' ⟨rk, hrk, rfl, rfl⟩
  exact ⟨0, rk, by rw [List.length_map]; rfl, rfl, hrk⟩

/-- A code made from words, or the zero. -/
def makeV (q : Int) (l : List (List UInt8)) : PV := if codeCheck q (made l) = 0 then codeV q (made l) else codeV 0 []
theorem makeV_code (q : Int) (l : List (List UInt8)) : ∃ p us, makeV q l = codeV p us ∧ us.length ≤ l.length := by
  unfold makeV
  split
  · exact ⟨_, _, rfl, made_le l⟩
  · exact ⟨0, [], rfl, by simp⟩

/-- Why a code cannot be completed. -/
def compE (q : Int) (ws : List (List UInt8)) : Int := if chE q ws ≠ 0 then chE q ws else codeCheck q (made (ws ++ missV q ws))
def compV (q : Int) (ws : List (List UInt8)) : PV := if chE q ws ≠ 0 then codeV 0 [] else makeV q (ws ++ missV q ws)

theorem missV_len {q : Int} {ws : List (List UInt8)} (hv : Valid q ws) : (missV q ws).length ≤ 32768 := by
  unfold missV
  split
  · have h1 := made_le (missL q.toNat ws ws.length)
    have h2 := missL_len (q := q.toNat) (ws := ws) (by have := hv.q16; omega) (fun x hx => (hv.words x hx).2.1) ws.length (Nat.le_refl _)
    have h3 := hv.len
    unfold missing
    omega
  · simp

theorem cm20 (q : Int) (ws : List (List UInt8)) : PFn Tryz.prog 20 [codeV q ws] [compV q ws, .int .i64 (compE q ws)] := by
  have e61 := cm61 q ws
  unfold compV compE
  refine PFn.of_body hΓ Tryz.func20 (by kernel_rfl) rfl (AWp.of_awpD [(4, 11)] hΓ hmix (by kernel_rfl) ?_)
  simp -implicitDefEqProofs only [Tryz.ntmps20, Tryz.results20, Nat.reduceAdd, Nat.reduceSub, codeV, go_sem]
  unfold codeV at e61
  refine callK_fn e61 (.still rfl) ?_
  by_cases hc : chE q ws = 0
  · obtain ⟨hv, _⟩ := chE_valid hc
    have hl := missV_len hv
    have hlen := hv.len
    have hq : ((q.toNat : Nat) : Int) = q := by have := hv.q2; omega
    have e62 := cm62 q.toNat ws (by rw [hq]; exact hv)
    rw [hq, show missing q.toNat ws = missV q ws by unfold missV; rw [if_pos hc]] at e62
    have e66 := c66p ws (missV q ws) (by rw [List.length_append]; omega)
    have e71 := t71 q (ws ++ missV q ws) (by rw [List.length_append]; omega)
    rw [← makeV] at e71
    obtain ⟨p, us, hpu, _⟩ := makeV_code q (ws ++ missV q ws)
    rw [hpu] at e71
    unfold codeV at e62 e71
    rw [hc, if_neg (by simp), if_neg (by simp), hpu]
    simp -implicitDefEqProofs only [go_sem]
    refine callVPK_fn e62 (.still rfl) ?_
    simp -implicitDefEqProofs only [go_sem]
    refine ⟨⟨by simp [sizeOK, PV.cells], by omega⟩, callVPK_fn e66 (.still rfl) ?_⟩
    simp -implicitDefEqProofs only [go_sem]
    refine callVPK_fn e71 (.still rfl) ?_
    simp -implicitDefEqProofs only [codeV, go_sem]
  · rw [if_pos hc, if_pos hc]
    simp -implicitDefEqProofs only [hc, codeV, List.map_nil, go_sem]

end Go.Proofs.YtjjedaikbgfmmaaGreat
end

section
namespace Go.Proofs.YtjjedaikbgfmmaaGreat
open Go Go.AM
set_option maxRecDepth 100000
set_option maxHeartbeats 4000000
set_option linter.unusedSimpArgs false

theorem cm28 (q : Int) (ws : List (List UInt8)) (hc : codeCheck q ws = 0) : PFn Tryz.prog 28 [codeV q ws] [Kn.ratV (Kn.krS q.toNat (ws.map List.length)) (q.toNat ^ 32), .int .i64 0] := by
  have hv := valid_of hc
  have h2 := hv.q2
  have h16 := hv.q16
  have hq : ((q.toNat : Nat) : Int) = q := by omega
  have hlen := hv.len
  have e45 := t45 q ws
  rw [hc] at e45
  have hz : ((0 : Int) = 0) = True := by simp
  have ek := Kn.v50 q.toNat (ws.map List.length) (by omega) (by omega) (by simp; omega) (fun n hn => by
    obtain ⟨w, hw, rfl⟩ := List.mem_map.1 hn
    obtain ⟨h1, h3, _⟩ := hv.words w hw
    have := List.length_pos_iff.2 h1
    omega)
  rw [hq] at ek
  refine PFn.of_body hΓ Tryz.func28 (by kernel_rfl) rfl (AWp.of_awpD [] hΓ hmix (by kernel_rfl) ?_)
  simp -implicitDefEqProofs only [Tryz.ntmps28, Tryz.results28, Nat.reduceAdd, Nat.reduceSub, codeV, go_sem]
  refine callK_fn e45 (.still rfl) ?_
  simp -implicitDefEqProofs only [go_sem]
  refine AWp.adopt (l := []) 4 3 1 (by rfl) (by simp) ?_
  simp -implicitDefEqProofs only [go_sem]
  refine AWp.loopI (fun i : Nat => ⟨mkF 30 [(1, .ptr 0 0), (2, .ptr 1 0), (4, .own 2 ((ws.map List.length).take i).length), (12, .p (.sl (ws.map .str))), (13, .p (.int .i64 ws.length)), (14, .p (.int .i64 i))], [codeB q ws, .box [.p (.bool false), .p (.str []), .p (.bool false), .p (.str [])], .row 3 1 (((ws.map List.length).take i).map Kn.nV) .lax]⟩)
    (fun i => i ≤ ws.length) (fun i => ws.length - i) 0 (by simp [go_sem, codeB]) (by simp) ?_
  intro i hi
  refine AWp.of_awpD [] hΓ hmix (by kernel_rfl) ?_
  by_cases hlt : i < ws.length
  · have hlt' : (i : Int) < (ws.length : Int) := by omega
    have hgi : (ws.map PV.str).getD i default = .str ws[i] := getD_map_lt _ _ _ _ hlt
    have htk : (ws.map List.length).take (i + 1) = (ws.map List.length).take i ++ [ws[i].length] := by
      rw [List.take_succ_eq_append_getElem (by simpa using hlt), List.getElem_map]
    have hli : ((ws.map List.length).take i).length = i := by simp; omega
    have hs1 : sizeOK [PV.int .i64 (ws[i].length : Int)] 1 := by simp [sizeOK, PV.cells]
    have ho1 : oneOK [PV.int .i64 (ws[i].length : Int)] := by simp [oneOK, PV.cells, PV.isAgg]
    simp -implicitDefEqProofs only [hlt', hgi, codeB, Int.toNat_natCast, go_sem]
    refine ⟨⟨hs1, by omega⟩, ⟨hs1, ho1⟩, ⟨by simp, by rw [hli]; omega, by rw [hli]; omega⟩, by simp only [InR]; omega, i + 1, ⟨⟨by rw [htk]; simp, by simp⟩, .inr ?_⟩, hlt, by omega⟩
    rw [htk]
    simp [Kn.nV]
  · have hlt' : ¬ (i : Int) < (ws.length : Int) := by omega
    have : i = ws.length := by omega
    subst this
    rw [List.take_of_length_le (by simp)]
    simp -implicitDefEqProofs only [Int.lt_irrefl, Nat.lt_irrefl, codeB, go_sem]
    refine callK_fn ek (.owned rfl rfl) ?_
    simp -implicitDefEqProofs only [Kn.ratV, go_sem]

def oneR : PV := .agg [.bool false, .str [1], .bool false, .str [1]]
theorem cm29 : PFn Tryz.prog 29 [] [oneR] := by
  have h : (runEP ⟨Tryz.prog, Γ, axA⟩ ptA 900 29 []).bind AV.pvT = some (.p oneR) := by kernel_rfl
  obtain ⟨v, h1, h2⟩ := Option.bind_eq_some_iff.1 h
  exact .of_acP ((runEP_ok hEA h1).monoR fun u h' ⟨e1, e2⟩ => ⟨by rw [e1]; exact h2, e2⟩)

theorem measure_one {q : Nat} {D : List (List UInt8)} (hq : q ≠ 0) (h : Kn.taken q [] D = q ^ 32) : Kn.ratV (Kn.krS q (D.map List.length)) (q ^ 32) = oneR := by
  have e : Kn.krS q (D.map List.length) = q ^ 32 := by rw [← h, Kn.taken_sum]; rfl
  have h1 := Kn.low_eq (n := Kn.krS q (D.map List.length)) (d := q ^ 32) (m := 1) (e := 1) (Nat.pos_iff_ne_zero.1 (Nat.pow_pos (Nat.pos_of_ne_zero hq))) (by decide)
  rw [h1.2 (by rw [e]; omega), ratV_one]
  rfl

theorem cm79 (a : List (List UInt8)) (x : List UInt8) (hl : a.length ≤ 9223372036854775807) : PFn Tryz.prog 79 [.sl (a.map .str), .str x] [.int .i64 (if x ∈ a then (a.idxOf x : Int) else -1)] := by
  refine PFn.of_body hΓ Tryz.func79 (by kernel_rfl) rfl (AWp.of_awpD [] hΓ hmix (by kernel_rfl) ?_)
  simp -implicitDefEqProofs only [Tryz.ntmps79, Tryz.results79, Nat.reduceAdd, Nat.reduceSub, go_sem]
  refine AWp.loopI (fun k : Nat => ⟨mkF 19 [(0, .p (.sl (a.map .str))), (1, .p (.str x)), (4, .p (.int .i64 0)), (7, .p (.int .i64 a.length)), (8, .p (.int .i64 k))], []⟩)
    (fun k => k ≤ a.length ∧ x ∉ a.take k) (fun k => a.length - k) 0 (by simp [go_sem, weakH_self]) (by simp) ?_
  rintro k ⟨hk, h0⟩
  refine AWp.of_awpD [] hΓ hmix (by kernel_rfl) ?_
  by_cases hlt : k < a.length
  · have hlt' : (k : Int) < (a.length : Int) := by omega
    have hg : (a.map PV.str).getD k default = .str a[k] := getD_map_lt _ _ _ _ hlt
    have htk : a.take (k + 1) = a.take k ++ [a[k]] := by rw [List.take_succ_eq_append_getElem hlt]
    by_cases he : x = a[k]
    · simp -implicitDefEqProofs only [hlt', hg, Int.toNat_natCast, he, List.length_map, go_sem]
      have hx : x ∈ a := he ▸ List.getElem_mem hlt
      have hi : a.idxOf x = k := by
        conv => lhs; rw [← List.take_append_drop k a, List.idxOf_append, if_neg h0]
        rw [List.drop_eq_getElem_cons hlt, he, List.idxOf_cons_self, List.length_take]
        omega
      rw [← he, if_pos hx, hi]
    · simp -implicitDefEqProofs only [hlt', hg, Int.toNat_natCast, he, List.length_map, go_sem]
      have h2 : x ∉ a.take (k + 1) := by
        rw [htk]; simp only [List.mem_append, List.mem_singleton]
        exact fun h => h.elim h0 he
      exact ⟨by simp only [InR]; omega, k + 1, by simp, ⟨hlt, h2⟩, by omega⟩
  · have hlt' : ¬ (k : Int) < (a.length : Int) := by omega
    rw [List.take_of_length_le (by omega)] at h0
    rw [if_neg h0]
    simp -implicitDefEqProofs only [hlt', go_sem]
theorem cm32 (a : List (List UInt8)) (x : List UInt8) (hl : a.length ≤ 9223372036854775807) : PFn Tryz.prog 32 [.sl (a.map .str), .str x] [.bool (decide (x ∈ a))] := by
  have e := cm79 a x hl
  by_cases hx : x ∈ a
  · rw [if_pos hx] at e
    refine PFn.of_body hΓ Tryz.func32 (by kernel_rfl) rfl (AWp.of_awpD [] hΓ hmix (by kernel_rfl) ?_)
    simp -implicitDefEqProofs only [Tryz.ntmps32, Tryz.results32, Nat.reduceAdd, Nat.reduceSub, go_sem]
    refine callK_fn e (.pures rfl) ?_
    simp -implicitDefEqProofs only [hx, go_sem]
    try simp
  · rw [if_neg hx] at e
    refine PFn.of_body hΓ Tryz.func32 (by kernel_rfl) rfl (AWp.of_awpD [] hΓ hmix (by kernel_rfl) ?_)
    simp -implicitDefEqProofs only [Tryz.ntmps32, Tryz.results32, Nat.reduceAdd, Nat.reduceSub, go_sem]
    refine callK_fn e (.pures rfl) ?_
    simp -implicitDefEqProofs only [hx, go_sem]
    try simp
theorem cm78 {h : List AObj} {b : Nat} (q : Int) (D : List (List UInt8)) (x : List UInt8) (hl : D.length ≤ 9223372036854775807) (hb : h[b]? = some (codeB q D)) :
    AC Tryz.prog 78 [.p (.str x), .ptr b 0] h [] (fun v h' => v = .p (.bool (!decide (x ∈ D))) ∧ h' = h) := by
  refine AC.of_bodyE hΓ Tryz.func78 (by kernel_rfl) rfl (AWp.mono (Q := fun e st => AM.Ends e ∧ st.tmps.getD 3 .junk = .p (.bool (!decide (x ∈ D))) ∧ st.h = h) ?_ ?_)
  rotate_left
  · rintro e ⟨tm, h'⟩ ⟨he, h1, h2⟩
    simp only at h1 h2
    subst h2
    refine ⟨he, _, Less.refl _, ?_⟩
    unfold DoneE
    simp +contextual -implicitDefEqProofs only [Tryz.results78, h1, go_sem]
    exact ⟨_, Nat.le_refl _, .inl rfl, List.take_length⟩
  unfold codeB at hb
  refine AWp.of_awpD [] hΓ hmix (by kernel_rfl) ?_
  simp -implicitDefEqProofs only [Tryz.ntmps78, Nat.reduceAdd, Nat.reduceSub, hb, go_sem]
  refine callK_fn (cm32 D x hl) (.pures rfl) ?_
  simp -implicitDefEqProofs only [go_sem]

/-- Two quotients compared. -/
theorem aggR {A B C D : List UInt8} {x y : AV} {K : AV → Prop} (hx : x.pure = some (.agg [.bool false, .str A, .bool false, .str B])) (hy : y.pure = some (.agg [.bool false, .str C, .bool false, .str D]))
    (hK : K (.p (.bool (decide (A = C) && decide (B = D))))) : aggK Γ .eql 50 x y K := by
  have he : ∃ te fs, Γ 50 = some te ∧ te.td = .struct fs ∧ te.eqs = true ∧ eqAgg Γ fs [.bool false, .str A, .bool false, .str B] [.bool false, .str C, .bool false, .str D] =
      some (((false == false) && (decide (A = C) && true)) && (((false == false) && (decide (B = D) && true)) && true)) := ⟨_, _, rfl, rfl, rfl, rfl⟩
  obtain ⟨te, fs, h1, h2, h3, h4⟩ := he
  have e : (((false == false) && (decide (A = C) && true)) && (((false == false) && (decide (B = D) && true)) && true)) = (decide (A = C) && decide (B = D)) := by simp
  rw [e] at h4
  unfold aggK
  rw [hx, hy]
  simp only [tyAt, h1, h2, h3, h4]
  exact ⟨⟨trivial, rfl, rfl⟩, hK⟩

theorem cm31 (q : Int) (D ws : List (List UInt8)) (hD : codeCheck q D = 0) (hp : prefB D = true) (hone : Kn.taken q.toNat [] D = q.toNat ^ 32) (hsub : ∀ x ∈ ws, x ∈ D) (hl : ws.length ≤ 9223372036854775807) :
    PFn Tryz.prog 31 [codeV q D, codeV q ws] [.bool true] := by
  have hv := valid_of hD
  have hlen := hv.len
  have e15 := t38 q D
  rw [if_pos hD, if_pos hD, show aloneB (fun w x => x.isPrefixOf w) D = true from hp] at e15
  have e28 := cm28 q D hD
  rw [measure_one (by have := hv.q2; omega) hone] at e28
  have e29 := cm29
  unfold oneR at e28 e29
  have hany : ws.any (fun x => !decide (x ∈ D)) = false := by
    rw [List.any_eq_false]
    intro x hx
    rw [decide_eq_true (hsub x hx)]; simp
  have e77 : ∀ h : List AObj, AC Tryz.prog 77 [.p (.sl (ws.map .str)), .fn 78 [.ptr 0 0]] (codeB q D :: h) [] (fun v h' => v = .p (.bool false) ∧ h' = codeB q D :: h) := fun h => by
    have := c77 (h := codeB q D :: h) (caps := [.ptr 0 0]) (g := 78) (pr := fun x => !decide (x ∈ D)) ws hl (fun w _ => cm78 q D w (by omega) rfl)
    rw [hany] at this
    exact this
  unfold codeB at e77
  refine PFn.of_body hΓ Tryz.func31 (by kernel_rfl) rfl (AWp.of_awpD [(3, 29)] hΓ hmix (by kernel_rfl) ?_)
  simp -implicitDefEqProofs only [Tryz.ntmps31, Tryz.results31, Nat.reduceAdd, Nat.reduceSub, codeV, go_sem]
  unfold codeV at e15 e28
  refine callK_fn e15 (.still rfl) ?_
  simp -implicitDefEqProofs only [go_sem]
  refine callK_fn e28 (.still rfl) ?_
  simp -implicitDefEqProofs only [go_sem]
  refine callVPK_fn e29 (.pures rfl) ?_
  simp -implicitDefEqProofs only [go_sem]
  refine aggR rfl rfl ?_
  have hA : (decide (([1] : List UInt8) = [1]) && decide (([1] : List UInt8) = [1])) = true := by decide
  simp -implicitDefEqProofs only [hA, go_sem]
  refine .inr (.inr ⟨_, e77 _, ?_⟩)
  simp -implicitDefEqProofs only [go_sem]
end Go.Proofs.YtjjedaikbgfmmaaGreat
end

section
namespace Go.Proofs.YtjjedaikbgfmmaaGreat
open Go Go.AM
set_option maxRecDepth 100000
set_option maxHeartbeats 4000000
set_option linter.unusedSimpArgs false

theorem emb_code {q : Int} {ws : List (List UInt8)} {n : Nat} (hv : Valid q ws) (hp : prefB ws = true) (hn : n ≤ 32) :
    (made (ws ++ embL q.toNat ws n)).length = ws.length + (embL q.toNat ws n).length ∧ prefB (made (ws ++ embL q.toNat ws n)) = true ∧ Kn.taken q.toNat [] (made (ws ++ embL q.toNat ws n)) = q.toNat ^ 32 ∧
    missing q.toNat (made (ws ++ embL q.toNat ws n)) = [] ∧ ((made (ws ++ embL q.toNat ws n)).length ≤ 64 → codeCheck q (made (ws ++ embL q.toNat ws n)) = 0) ∧
    (64 < (made (ws ++ embL q.toNat ws n)).length → codeCheck q (made (ws ++ embL q.toNat ws n)) = 4) := by
  have hc := pcode_of hv hp
  have hD := all_pcode hc hn
  have hw := whole_made (all_whole hc (n := n))
  have hl := made_len (all_nodup hc (n := n))
  have h2 := hv.q2
  have h16 := hv.q16
  have hq : ((q.toNat : Nat) : Int) = q := by omega
  have hmem : ∀ x ∈ made (ws ++ embL q.toNat ws n), x ≠ [] := fun x hx => by
    rcases List.mem_append.1 (mem_made.1 hx) with h | h
    · exact (hv.words x h).1
    · obtain ⟨m, u, hm, rfl, _, _⟩ := mem_embL.1 h
      have := (miss_short hc hm).2.1
      simp [this]
  have hne : made (ws ++ embL q.toNat ws n) ≠ [] := fun e => by
    have : ws[0]'hv.pos ∈ made (ws ++ embL q.toNat ws n) := mem_made.2 (List.mem_append_left _ (List.getElem_mem _))
    rw [e] at this; cases this
  have hin : Kn.Inner (made (ws ++ embL q.toNat ws n)) [] := by
    refine ⟨ws[0]'hv.pos, mem_made.2 (List.mem_append_left _ (List.getElem_mem _)), rfl, ?_⟩
    exact List.length_pos_iff.2 (hv.words _ (List.getElem_mem _)).1
  refine ⟨by rw [hl, List.length_append], pref_of (strict_nodup (made_strict _)) hD.free, (hD.one_iff hin).2 hw, missing_nil hw, fun h64 => ?_, fun h64 => ?_⟩
  · refine check_of h2 h16 hne h64 (fun x hx => ⟨hmem x hx, hD.short x hx, ?_⟩) (made_strict _)
    have := word_of (q := q.toNat) (w := x) (by omega) (by omega) (by have := hD.short x hx; omega) (hD.alph x hx)
    rwa [hq] at this
  · exact codeCheck_4 (by omega) (fun e => hne (List.length_eq_zero_iff.1 e)) h64

theorem missV_emb {q : Int} {ws : List (List UInt8)} (hc : chE q ws = 0) : missV q ws = embL q.toNat ws 1 := by unfold missV; rw [if_pos hc, embL_one]
theorem chE_ok {q : Int} {ws : List (List UInt8)} (h1 : codeCheck q ws = 0) (h2 : prefB ws = true) : chE q ws = 0 := by
  unfold chE
  rw [if_pos h1, if_pos (show preP ws = true from h2)]
theorem missV_nil {q : Int} {D : List (List UInt8)} (hc : chE q D = 0) (h : missing q.toNat D = []) : missV q D = [] := by unfold missV; rw [if_pos hc, h]

theorem b6 (q : Int) (ws : List (List UInt8)) (hws : ws.length ≤ 9223372036854775807) : PFn Tryz.prog 6 [codeV q ws] [.bool true] := by
  have eg := t11 q ws hws
  have e20 := cm20 q ws
  have e18 := cm18 q ws
  unfold codeV at eg e18
  refine PFn.of_body hΓ Tryz.func6 (by kernel_rfl) rfl (AWp.seq (AWp.of_awpD [] hΓ hmix (by kernel_rfl) ?_))
  simp -implicitDefEqProofs only [Tryz.ntmps6, Tryz.results6, Nat.reduceAdd, Nat.reduceSub, codeV, go_sem]
  refine AWp.seq ?_
  refine AWp.of_awpD [] hΓ hmix (by kernel_rfl) ?_
  simp -implicitDefEqProofs only [go_sem]
  refine callK_fn eg (.still rfl) ?_
  cases hg : (greatC ws || ws.any greatW)
  rotate_left
  · simp -implicitDefEqProofs only [go_sem]
    refine callK_fn awake_ok (.pures rfl) ?_
    simp -implicitDefEqProofs only [go_sem]
  by_cases hc : chE q ws = 0
  rotate_left
  · have hE : compE q ws = chE q ws := by unfold compE; rw [if_pos hc]
    have hV : compV q ws = codeV 0 [] := by unfold compV; rw [if_pos hc]
    rw [hE, hV] at e20
    unfold codeV at e20
    have hbb : (chE q ws == chE q ws) = true := by simp
    simp -implicitDefEqProofs only [go_sem]
    refine AWp.of_awpD [] hΓ hmix (by kernel_rfl) ?_
    simp -implicitDefEqProofs only [go_sem]
    refine callK_fn e20 (.still rfl) ?_
    simp -implicitDefEqProofs only [go_sem]
    refine callK_fn e18 (.still rfl) ?_
    simp -implicitDefEqProofs only [hc, hbb, go_sem]
    refine callK_fn awake_ok (.pures rfl) ?_
    simp -implicitDefEqProofs only [go_sem]
  obtain ⟨hv, hp⟩ := chE_valid hc
  have hm := missV_emb hc
  obtain ⟨k1, k2, k3, k4, k5, k6⟩ := emb_code (n := 1) hv hp (by omega)
  rw [← hm] at k1 k2 k3 k4 k5 k6
  have hEv : compE q ws = codeCheck q (made (ws ++ missV q ws)) := by unfold compE; rw [if_neg (by simp [hc])]
  have hVv : compV q ws = makeV q (ws ++ missV q ws) := by unfold compV; rw [if_neg (by simp [hc])]
  rw [hEv, hVv] at e20
  unfold makeV at e20
  rw [hc] at e18
  by_cases h64 : (made (ws ++ missV q ws)).length ≤ 64
  · have hD := k5 h64
    rw [hD, if_pos rfl] at e20
    have e18' := cm18 q (made (ws ++ missV q ws))
    have e31 := cm31 q (made (ws ++ missV q ws)) ws hD k2 k3 (fun x hx => mem_made.2 (List.mem_append_left _ hx)) hws
    rw [chE_ok hD k2] at e18'
    rw [missV_nil (chE_ok hD k2) k4] at e18'
    generalize made (ws ++ missV q ws) = D at *
    unfold codeV at e20 e18' e31
    have hl : ((D.length : Nat) : Int) = (ws.length : Int) + ((missV q ws).length : Int) := by omega
    have hll : ((D.length : Int) == (ws.length : Int) + ((missV q ws).length : Int)) = true := by simp [hl]
    have hz : ((0 : Nat) : Int) = 0 := rfl
    simp -implicitDefEqProofs only [go_sem]
    refine AWp.of_awpD [] hΓ hmix (by kernel_rfl) ?_
    simp -implicitDefEqProofs only [go_sem]
    refine callK_fn e20 (.still rfl) ?_
    simp -implicitDefEqProofs only [go_sem]
    refine callK_fn e18 (.still rfl) ?_
    simp -implicitDefEqProofs only [go_sem]
    refine callK_fn e18' (.still rfl) ?_
    simp -implicitDefEqProofs only [List.map_nil, List.length_nil, hz, go_sem]
    refine callK_fn e31 (.still rfl) ?_
    simp -implicitDefEqProofs only [List.length_map, hl, hll, go_sem]
    have hml := missV_len hv
    have hwl := hv.len
    refine ⟨by simp only [InR]; omega, callK_fn awake_ok (.pures rfl) ?_⟩
    simp -implicitDefEqProofs only [go_sem]
  · have hD := k6 (by omega)
    rw [hD, if_neg (by decide)] at e20
    unfold codeV at e20
    simp -implicitDefEqProofs only [go_sem]
    refine AWp.of_awpD [] hΓ hmix (by kernel_rfl) ?_
    simp -implicitDefEqProofs only [go_sem]
    refine callK_fn e20 (.still rfl) ?_
    simp -implicitDefEqProofs only [go_sem]
    refine callK_fn e18 (.still rfl) ?_
    simp -implicitDefEqProofs only [show ¬ (4 : Int) = 0 by decide, show ¬ (0 : Int) = 4 by decide, go_sem]
    refine callK_fn awake_ok (.pures rfl) ?_
    simp -implicitDefEqProofs only [go_sem]
end Go.Proofs.YtjjedaikbgfmmaaGreat
end

section
namespace Go.Proofs.YtjjedaikbgfmmaaGreat
open Go Go.AM
set_option maxRecDepth 100000
set_option maxHeartbeats 4000000
set_option linter.unusedSimpArgs false

theorem leftN_pair {ws : List (List UInt8)} {l : List Int} : ∀ n, n ≤ ws.length → (leftN ws l n).Sublist (ws.take n)
  | 0, _ => by simp [leftN]
  | n + 1, hn => by
    have ih := leftN_pair (ws := ws) (l := l) n (by omega)
    rw [List.take_succ_eq_append_getElem hn]
    by_cases hm : (n : Int) ∈ l
    · rw [leftN_yes hm]; exact ih.trans (List.sublist_append_left _ _)
    · rw [leftN_no hm hn]; exact List.Sublist.append ih (List.Sublist.refl _)
/-- In a prefix code each word is cut within itself. -/
theorem cut_in {q : Int} {ws : List (List UInt8)} {l : List Int} (hv : Valid q ws) (hp : prefB ws = true) {i : Nat} (hi : i < (leftN ws l ws.length).length) :
    cutN (othersN (leftN ws l ws.length) i) (leftN ws l ws.length)[i] ≤ (leftN ws l ws.length)[i].length := by
  have hsub : (leftN ws l ws.length).Sublist ws := by have := leftN_pair (ws := ws) (l := l) ws.length (Nat.le_refl _); rwa [List.take_length] at this
  have hmem : ∀ x ∈ leftN ws l ws.length, x ∈ ws := fun x hx => hsub.mem hx
  have hnd : (leftN ws l ws.length).Nodup := (strict_nodup hv.strict).sublist hsub
  have hal := (alone_iff (pr := fun w x => x.isPrefixOf w) (strict_nodup hv.strict)).1 hp
  generalize leftN ws l ws.length = L at *
  by_cases hc : cutN (othersN L i) L[i] ≤ L[i].length
  · exact hc
  exfalso
  rcases cutN_lt (os := othersN L i) (w := L[i]) (n := L[i].length) (by omega) (Nat.le_refl _) with h | h
  · exact (hv.words _ (hmem _ (List.getElem_mem hi))).1 (List.eq_nil_of_length_eq_zero h)
  · rw [List.take_length, List.any_eq_true] at h
    obtain ⟨x, hx, hpx⟩ := h
    have hxL : x ∈ L := by
      unfold othersN at hx
      rcases List.mem_append.1 hx with h1 | h1
      · exact List.mem_of_mem_take h1
      · exact List.mem_of_mem_drop h1
    have e := hal x (hmem x hxL) L[i] (hmem _ (List.getElem_mem hi)) hpx
    subst e
    unfold othersN at hx
    have hsplit : L = L.take i ++ L[i] :: L.drop (i + 1) := by rw [← List.drop_eq_getElem_cons hi, List.take_append_drop]
    rw [hsplit] at hnd
    have h2 := List.nodup_append.1 hnd
    have h3 := List.nodup_cons.1 h2.2.1
    rcases List.mem_append.1 hx with h1 | h1
    · exact h2.2.2 _ h1 _ List.mem_cons_self rfl
    · exact h3.1 h1
theorem cutL_in {os : List (List UInt8)} {w : List UInt8} (h : cutN os w ≤ w.length) : cutL os w = [w.take (cutN os w)] := by unfold cutL; rw [if_pos h]
theorem cutN_pos {os : List (List UInt8)} {w : List UInt8} (h : cutN os w ≤ w.length) : 0 < cutN os w := (cutN_at h).1
end Go.Proofs.YtjjedaikbgfmmaaGreat
end

section
namespace Go.Proofs.YtjjedaikbgfmmaaGreat
open Go Go.AM
set_option maxRecDepth 100000
set_option linter.unusedSimpArgs false

theorem one_count {p : List UInt8 → Bool} {x : List UInt8} : ∀ {l : List (List UInt8)}, l.Nodup → x ∈ l → (∀ y ∈ l, p y = true → y = x) → p x = true → l.countP p = 1
  | [], _, hx, _, _ => by cases hx
  | a :: l, hd, hx, hu, hp => by
    have hd' := List.nodup_cons.1 hd
    by_cases ha : a = x
    · subst ha
      rw [List.countP_cons_of_pos hp, List.countP_eq_zero.2 fun y hy hpy => hd'.1 (hu y (List.mem_cons_of_mem _ hy) hpy ▸ hy)]
    · have hxl : x ∈ l := (List.mem_cons.1 hx).resolve_left fun h => ha h.symm
      rw [List.countP_cons_of_neg (fun hpa => ha (hu a (by simp) hpa))]
      exact one_count hd'.2 hxl (fun y hy => hu y (by simp [hy])) hp

theorem mem_others {L : List (List UInt8)} {i j : Nat} (hj : j < L.length) (hne : j ≠ i) : L[j] ∈ othersN L i := by
  unfold othersN
  rcases Nat.lt_or_gt_of_ne hne with h | h
  · exact List.mem_append_left _ (List.mem_take_iff_getElem.2 ⟨j, by omega, rfl⟩)
  · refine List.mem_append_right _ (List.mem_drop_iff_getElem.2 ⟨j - (i + 1), by omega, ?_⟩)
    congr 1; omega

/-- The beginning that is kept of a word. -/
def cutW (L : List (List UInt8)) (i : Nat) : List UInt8 := (L.getD i []).take (cutN (othersN L i) (L.getD i []))
theorem pruneN_map {L : List (List UInt8)} (hc : ∀ i (hi : i < L.length), cutN (othersN L i) L[i] ≤ L[i].length) : pruneN L L.length = (List.range L.length).map (cutW L) := by
  have key : ∀ n, n ≤ L.length → pruneN L n = (List.range n).map (cutW L) := by
    intro n
    induction n with
    | zero => intro _; rfl
    | succ n ih =>
      intro hn
      rw [pruneN_succ hn, ih (by omega), List.range_succ, List.map_append, cutL_in (hc n hn)]
      unfold cutW
      simp [List.getD_eq_getElem?_getD, List.getElem?_eq_getElem (show n < L.length by omega)]
  exact key _ (Nat.le_refl _)
theorem cutW_at {L : List (List UInt8)} {i : Nat} (hi : i < L.length) : cutW L i = L[i].take (cutN (othersN L i) L[i]) := by
  unfold cutW; rw [List.getD_eq_getElem?_getD, List.getElem?_eq_getElem hi, Option.getD_some]

section
variable {q : Int} {ws L : List (List UInt8)} (hv : Valid q ws) (hL : ∀ x ∈ L, x ∈ ws) (hc : ∀ i (hi : i < L.length), cutN (othersN L i) L[i] ≤ L[i].length)
include hc
theorem cut_alone {i j : Nat} (hi : i < L.length) (hj : j < L.length) (hne : j ≠ i) : ¬ cutW L i <+: L[j] := fun h => by
  have h1 := (cutN_at (hc i hi)).2
  rw [← cutW_at hi] at h1
  have h2 := List.any_eq_false.1 h1 L[j] (mem_others hj hne)
  exact h2 (List.isPrefixOf_iff_prefix.2 h)
theorem cut_pre {i : Nat} (hi : i < L.length) : cutW L i <+: L[i] ∧ cutW L i ≠ [] := by
  rw [cutW_at hi]
  refine ⟨List.take_prefix _ _, fun e => ?_⟩
  have h1 := cutN_pos (hc i hi)
  have h2 := hc i hi
  have := congrArg List.length e
  rw [List.length_take, List.length_nil] at this
  omega
theorem cut_inj {i j : Nat} (hi : i < L.length) (hj : j < L.length) (h : cutW L i <+: cutW L j) : i = j := by
  by_cases e : j = i
  · exact e.symm
  · exact absurd (h.trans (cut_pre hc hj).1) (cut_alone hc hi hj e)
theorem prune_nodup : (pruneN L L.length).Nodup := by
  rw [pruneN_map hc]
  refine List.Pairwise.map _ (R := fun i j => i < L.length ∧ j < L.length ∧ i ≠ j) (fun a b ⟨h1, h2, h3⟩ e => h3 (cut_inj hc h1 h2 (by rw [e]; exact List.prefix_refl _))) ?_
  exact List.Pairwise.imp_of_mem (fun {a b} ha hb hab => ⟨List.mem_range.1 ha, List.mem_range.1 hb, hab⟩) (List.nodup_range (n := L.length))
theorem mem_prune {x : List UInt8} : x ∈ made (pruneN L L.length) ↔ ∃ i, i < L.length ∧ x = cutW L i := by
  rw [mem_made, pruneN_map hc, List.mem_map]
  simp only [List.mem_range]
  exact ⟨fun ⟨i, h1, h2⟩ => ⟨i, h1, h2.symm⟩, fun ⟨i, h1, h2⟩ => ⟨i, h1, h2.symm⟩⟩
theorem prune_len : (made (pruneN L L.length)).length = L.length := by
  rw [made_len (prune_nodup hc), pruneN_map hc]; simp
theorem prune_pref : prefB (made (pruneN L L.length)) = true := by
  refine pref_of (strict_nodup (made_strict _)) fun x hx y hy h => ?_
  obtain ⟨i, hi, rfl⟩ := (mem_prune hc).1 hx
  obtain ⟨j, hj, rfl⟩ := (mem_prune hc).1 hy
  rw [cut_inj hc hj hi (List.isPrefixOf_iff_prefix.1 h)]
theorem prune_count {i : Nat} (hi : i < L.length) : (made (pruneN L L.length)).countP (fun u => u.isPrefixOf L[i]) = 1 := by
  refine one_count (x := cutW L i) (strict_nodup (made_strict _)) ((mem_prune hc).2 ⟨i, hi, rfl⟩) (fun y hy h => ?_) (List.isPrefixOf_iff_prefix.2 (cut_pre hc hi).1)
  obtain ⟨j, hj, rfl⟩ := (mem_prune hc).1 hy
  by_cases e : i = j
  · rw [e]
  · exact absurd (List.isPrefixOf_iff_prefix.1 h) (cut_alone hc hj hi e)
include hv hL
theorem prune_check (hlen : L.length ≤ 64) (h0 : L ≠ []) : codeCheck q (made (pruneN L L.length)) = 0 := by
  have h2 := hv.q2
  have h16 := hv.q16
  have hq : ((q.toNat : Nat) : Int) = q := by omega
  refine check_of h2 h16 (fun e => ?_) (by rw [prune_len hc]; exact hlen) (fun x hx => ?_) (made_strict _)
  · have := prune_len hc
    rw [e] at this
    exact h0 (List.length_eq_zero_iff.1 this.symm)
  · obtain ⟨i, hi, rfl⟩ := (mem_prune hc).1 hx
    obtain ⟨hp, hne⟩ := cut_pre hc hi
    obtain ⟨w1, w2, w3⟩ := hv.words L[i] (hL _ (List.getElem_mem hi))
    have hl := hp.length_le
    refine ⟨hne, by omega, ?_⟩
    have := word_of (q := q.toNat) (w := cutW L i) (by omega) (by omega) (by omega) (fun b hb => alph_of w3 b (hp.subset hb))
    rwa [hq] at this
end

/-- Where nothing is missing, nothing is cut. -/
theorem whole_uncut {q : Int} {ws : List (List UInt8)} (hv : Valid q ws) (hp : prefB ws = true) (hw : Kn.Whole q.toNat ws) : made (pruneN ws ws.length) = ws := by
  have h2 := hv.q2
  have h16 := hv.q16
  have hl0 : leftN ws [] ws.length = ws := by
    have key : ∀ n, n ≤ ws.length → leftN ws [] n = ws.take n := by
      intro n
      induction n with
      | zero => intro _; simp [leftN]
      | succ n ih => intro hn; rw [leftN_no (by simp) (by omega), ih (by omega), List.take_succ_eq_append_getElem (by omega)]
    rw [key _ (Nat.le_refl _), List.take_length]
  have hc : ∀ i (hi : i < ws.length), cutN (othersN ws i) ws[i] ≤ ws[i].length := fun i hi => by
    have := cut_in (l := []) (i := i) hv hp (by rw [hl0]; exact hi)
    simp only [hl0] at this
    exact this
  have hcut : ∀ i (hi : i < ws.length), cutW ws i = ws[i] := fun i hi => by
    rw [cutW_at hi]
    obtain ⟨h3, h4⟩ := cutN_at (hc i hi)
    have h5 := hc i hi
    generalize cutN (othersN ws i) ws[i] = n at *
    by_cases hn : n = ws[i].length
    · rw [hn, List.take_length]
    exfalso
    have hlt : n < ws[i].length := by omega
    have hin : Kn.Inner ws (ws[i].take n) := ⟨ws[i], List.getElem_mem hi, List.isPrefixOf_iff_prefix.2 (List.take_prefix _ _), by rw [List.length_take]; omega⟩
    obtain ⟨a, ha, hab⟩ : ∃ a, a < 2 ∧ Kn.ltr a ≠ ws[i][n] := by
      by_cases h : Kn.ltr 0 = ws[i][n]
      · exact ⟨1, by omega, fun h1 => absurd (Kn.ltr_inj (by omega) (by omega) (h.trans h1.symm)) (by omega)⟩
      · exact ⟨0, by omega, h⟩
    have hx : ∃ x ∈ ws, ws[i].take n ++ [Kn.ltr a] <+: x := by
      rcases hw _ hin a (by omega) with ⟨x, h6, h7, _⟩ | h6
      · exact ⟨x, h6, List.isPrefixOf_iff_prefix.1 h7⟩
      · exact ⟨_, h6, List.prefix_refl _⟩
    obtain ⟨x, hx, hpx⟩ := hx
    obtain ⟨j, hj, rfl⟩ := List.getElem_of_mem hx
    have hne : j ≠ i := fun e => by
      subst e
      have h8 := List.prefix_iff_eq_take.1 hpx
      rw [List.length_append, List.length_take, Nat.min_eq_left (by omega), List.length_singleton, List.take_succ_eq_append_getElem hlt] at h8
      have := List.append_cancel_left h8
      simp only [List.cons.injEq, and_true] at this
      exact hab this
    exact List.any_eq_false.1 h4 ws[j] (mem_others hj hne) (List.isPrefixOf_iff_prefix.2 ((List.prefix_append _ _).trans hpx))
  have e : pruneN ws ws.length = ws := by
    rw [pruneN_map hc]
    refine List.ext_getElem (by simp) fun i h6 h7 => ?_
    rw [List.getElem_map, List.getElem_range, hcut i h7]
  rw [e]
  exact made_of hv.strict fun x => Iff.rfl
end Go.Proofs.YtjjedaikbgfmmaaGreat
end

section
namespace Go.Proofs.YtjjedaikbgfmmaaGreat
open Go Go.AM
set_option maxRecDepth 100000
set_option maxHeartbeats 4000000
set_option linter.unusedSimpArgs false

theorem u23 (q p : Int) (us bs : List (List UInt8)) (hl : us.length ≤ 9223372036854775807) : PFn Tryz.prog 25 [codeV q us, codeV p bs] [.bool (decide (q = p ∧ us = bs))] := by
  by_cases hq : q = p
  rotate_left
  · rw [decide_eq_false (fun e => hq e.1)]
    refine PFn.of_body hΓ Tryz.func25 (by kernel_rfl) rfl (AWp.of_awpD [] hΓ hmix (by kernel_rfl) ?_)
    simp -implicitDefEqProofs only [Tryz.ntmps25, Tryz.results25, Nat.reduceAdd, Nat.reduceSub, codeV, hq, go_sem]
  subst hq
  rw [show decide (q = q ∧ us = bs) = decide (us = bs) by simp]
  refine PFn.of_body hΓ Tryz.func25 (by kernel_rfl) rfl (AWp.of_awpD [] hΓ hmix (by kernel_rfl) ?_)
  by_cases hn : (us.length : Int) = bs.length
  rotate_left
  · rw [decide_eq_false (fun e => hn (by rw [e]))]
    simp -implicitDefEqProofs only [Tryz.ntmps25, Tryz.results25, Nat.reduceAdd, Nat.reduceSub, codeV, hn, go_sem]
  simp -implicitDefEqProofs only [Tryz.ntmps25, Tryz.results25, Nat.reduceAdd, Nat.reduceSub, codeV, hn, go_sem]
  have hn' : us.length = bs.length := by omega
  refine AWp.loopI (fun k : Nat => ⟨mkF 38 [(2, .ptr 0 0), (3, .ptr 1 0), (4, .p (.bool false)), (5, .p (.int .i64 k))], [codeB q us, codeB q bs]⟩)
    (fun k => k ≤ us.length ∧ us.take k = bs.take k) (fun k => us.length - k) 0 (by simp [go_sem, codeB]) (by simp) ?_
  rintro k ⟨hk, heq⟩
  refine AWp.of_awpD [(6, 11)] hΓ hmix (by kernel_rfl) ?_
  by_cases hlt : k < us.length
  · have hlt2 : k < bs.length := by omega
    by_cases he : us[k] = bs[k]
    · simp -implicitDefEqProofs only [hlt, hlt2, he, getD_map_lt, ↓reduceIte, codeB, go_sem]
      refine ⟨by simp only [InR]; omega, k + 1, by omega, ⟨hlt, ?_⟩, by omega⟩
      rw [List.take_succ_eq_append_getElem hlt, List.take_succ_eq_append_getElem hlt2, heq, he]
    · simp -implicitDefEqProofs only [hlt, hlt2, he, getD_map_lt, ↓reduceIte, codeB, go_sem]
      refine (decide_eq_false fun e => he ?_).symm
      subst e; rfl
  · simp -implicitDefEqProofs only [hlt, codeB, go_sem]
    rw [List.take_of_length_le (by omega), List.take_of_length_le (by omega)] at heq
    exact (decide_eq_true heq).symm

end Go.Proofs.YtjjedaikbgfmmaaGreat
end

section
namespace Go.Proofs.YtjjedaikbgfmmaaGreat
open Go Go.AM
set_option maxRecDepth 100000
set_option maxHeartbeats 4000000
set_option linter.unusedSimpArgs false

def bV (x : Int) : PV := .int .u8 x
/-- The indices that bytes stand for. -/
def idxL (n : Nat) (l : List Int) : List Int := l.map fun x => x % (n : Int)

theorem prune_err {q : Int} {ws : List (List UInt8)} {I : List Int} (h : codeCheck q ws = 0) (hI : ∀ x ∈ I, 0 ≤ x ∧ x < (ws.length : Int)) :
    (prefB ws = false ∧ pruneE q ws I = 8) ∨ (prefB ws = true ∧ leftN ws I ws.length = [] ∧ pruneE q ws I = 5) ∨
    (prefB ws = true ∧ leftN ws I ws.length ≠ [] ∧ pruneE q ws I = 0 ∧ codeCheck q (made (pruneN (leftN ws I ws.length) (leftN ws I ws.length).length)) = 0) := by
  have hv := valid_of h
  have hout : I.any (outR ws) = false := List.any_eq_false.2 fun x hx hb => by
    obtain ⟨h1, h2⟩ := hI x hx
    unfold outR at hb
    simp only [Bool.or_eq_true, decide_eq_true_eq] at hb
    omega
  unfold pruneE chE
  rw [if_pos h]
  cases hp : prefB ws
  · rw [if_neg (show ¬ preP ws = true from fun e => by rw [show preP ws = prefB ws from rfl, hp] at e; cases e)]
    exact .inl ⟨rfl, rfl⟩
  · rw [if_pos (show preP ws = true from hp), if_neg (by decide), hout, if_neg (by decide)]
    by_cases hl : leftN ws I ws.length = []
    · rw [hl]; exact .inr (.inl ⟨rfl, rfl, rfl⟩)
    · have hc := prune_check (L := leftN ws I ws.length) hv (leftN_mem (Nat.le_refl _)) (fun i hi => cut_in hv hp hi) (by have := leftN_len ws I ws.length; have := hv.len; omega) hl
      rw [if_neg (fun e => hl (List.length_eq_zero_iff.1 e)), hc]
      exact .inr (.inr ⟨rfl, hl, rfl, rfl⟩)

theorem pruneW_c (q : Int) (ws : List (List UInt8)) (l : List Int) (hws : ws.length ≤ 9223372036854775807) : ∃ p us, pruneW q ws l = codeV p us ∧ us.length ≤ 9223372036854775807 := by
  unfold pruneW
  split
  · refine ⟨_, _, rfl, ?_⟩
    have h1 := made_le (pruneN (leftN ws l ws.length) (leftN ws l ws.length).length)
    have h2 := pruneN_len (leftN ws l ws.length) (leftN ws l ws.length).length
    have h3 := leftN_len ws l ws.length
    omega
  · exact ⟨0, [], rfl, by simp⟩

theorem leftN_nil {ws : List (List UInt8)} : ∀ n, n ≤ ws.length → leftN ws [] n = ws.take n
  | 0, _ => by simp [leftN]
  | n + 1, hn => by rw [leftN_no (by simp) (by omega), leftN_nil n (by omega), List.take_succ_eq_append_getElem (by omega)]
theorem leftN_in {ws : List (List UInt8)} {I : List Int} {i : Nat} (hi : i < ws.length) (hm : ¬ (i : Int) ∈ I) : ws[i] ∈ leftN ws I ws.length := by
  unfold leftN
  refine List.mem_flatMap.2 ⟨i, List.mem_range.2 hi, ?_⟩
  rw [if_neg hm, List.getD_eq_getElem?_getD, List.getElem?_eq_getElem hi, Option.getD_some]
  exact List.mem_singleton.2 rfl

theorem b5 (q : Int) (ws : List (List UInt8)) (l : List Int) (hws : ws.length ≤ 9223372036854775807) (hll : l.length ≤ 9223372036854775807) (hl0 : ∀ x ∈ l, 0 ≤ x ∧ x ≤ 255) : PFn Tryz.prog 5 [codeV q ws, .sl (l.map bV)] [.bool true] := by
  have eg := t11 q ws hws
  have ec := t44 q ws
  unfold codeV at eg ec
  refine PFn.of_body hΓ Tryz.func5 (by kernel_rfl) rfl (AWp.seq (AWp.of_awpD [] hΓ hmix (by kernel_rfl) ?_))
  simp -implicitDefEqProofs only [Tryz.ntmps5, Tryz.results5, Nat.reduceAdd, Nat.reduceSub, codeV, go_sem]
  refine AWp.seq ?_
  refine AWp.of_awpD [] hΓ hmix (by kernel_rfl) ?_
  simp -implicitDefEqProofs only [go_sem]
  refine callK_fn eg (.still rfl) ?_
  cases hg : (greatC ws || ws.any greatW)
  rotate_left
  · simp -implicitDefEqProofs only [go_sem]
    refine callK_fn awake_ok (.pures rfl) ?_
    simp -implicitDefEqProofs only [go_sem]
  simp -implicitDefEqProofs only [go_sem]
  refine callK_fn ec (.still rfl) ?_
  by_cases h : codeCheck q ws = 0
  rotate_left
  · simp -implicitDefEqProofs only [h, go_sem]
    refine callK_fn awake_ok (.pures rfl) ?_
    simp -implicitDefEqProofs only [go_sem]
  rw [h]
  by_cases h10 : (10 : Int) < (l.length : Int)
  · simp -implicitDefEqProofs only [h10, List.length_map, go_sem]
    refine callK_fn awake_ok (.pures rfl) ?_
    simp -implicitDefEqProofs only [go_sem]
  simp -implicitDefEqProofs only [h10, List.length_map, go_sem]
  have hv := valid_of h
  have hwl := hv.len
  have hwp := hv.pos
  refine AWp.seq (AWp.of_awpD [] hΓ hmix (by kernel_rfl) ?_)
  simp -implicitDefEqProofs only [go_sem]
  refine AWp.adopt (l := []) 5 3 1 (by rfl) (by simp) ?_
  simp -implicitDefEqProofs only [go_sem]
  refine AWp.seq (AWp.of_awpD [] hΓ hmix (by kernel_rfl) ?_)
  simp -implicitDefEqProofs only [go_sem]
  refine AWp.loopI (fun i : Nat => ⟨mkF 139 [(1, .p (.sl (l.map bV))), (2, .ptr 0 0), (4, .p (.bool false)), (5, .own 1 (idxL ws.length (l.take i)).length), (33, .p (.sl (l.map bV))), (34, .p (.int .i64 l.length)), (35, .p (.int .i64 i))], [.box [.p (.int .i64 q), .p (.sl (ws.map .str))], .row 3 1 ((idxL ws.length (l.take i)).map Kn.iV) .lax]⟩)
    (fun i => i ≤ l.length) (fun i => l.length - i) 0 (by simp [go_sem, idxL]) (by omega) ?_
  intro i hi
  refine AWp.of_awpD [] hΓ hmix (by kernel_rfl) ?_
  by_cases hlt : i < l.length
  · have hlt' : (i : Int) < (l.length : Int) := by omega
    have hgi : (l.map bV).getD i default = .int .u8 l[i] := by rw [getD_map_lt _ _ _ _ hlt]; rfl
    obtain ⟨hx0, hx1⟩ := hl0 l[i] (List.getElem_mem hlt)
    have hwr : IntKind.i64.wrap l[i] = l[i] := InR.wrap (k := .i64) (by simp only [InR]; omega)
    have hil : (idxL ws.length (l.take i)).length = i := by unfold idxL; rw [List.length_map, List.length_take]; omega
    have hs1 : sizeOK [PV.int .i64 (l[i] % (ws.length : Int))] 1 := by simp [sizeOK, PV.cells]
    have ho1 : oneOK [PV.int .i64 (l[i] % (ws.length : Int))] := by simp [oneOK, PV.cells, PV.isAgg]
    have hsu : idxL ws.length (l.take (i + 1)) = idxL ws.length (l.take i) ++ [l[i] % (ws.length : Int)] := by unfold idxL; rw [List.take_succ_eq_append_getElem hlt, List.map_append]; rfl
    simp -implicitDefEqProofs only [hlt', hgi, Int.toNat_natCast, hwr, go_sem]
    refine ⟨⟨hx0, by omega⟩, ⟨hs1, by omega⟩, ⟨hs1, ho1⟩, ⟨by simp, by omega, by omega⟩, by simp only [InR]; omega, i + 1, ⟨⟨by rw [hsu]; simp, by simp⟩, .inr ?_⟩, hlt, by omega⟩
    rw [hsu]
    simp [Kn.iV]
  have hiL : i = l.length := by omega
  subst hiL
  simp -implicitDefEqProofs only [Nat.lt_irrefl, Int.lt_irrefl, go_sem]
  rw [List.take_length]
  refine AWp.freeze 1 rfl ?_
  have hIl : (idxL ws.length l).length = l.length := List.length_map _
  have hI : ∀ x ∈ idxL ws.length l, 0 ≤ x ∧ x < (ws.length : Int) := fun x hx => by
    obtain ⟨y, hy, rfl⟩ := List.mem_map.1 hx
    exact ⟨Int.emod_nonneg _ (by omega), Int.emod_lt_of_pos _ (by omega)⟩
  have hI0 : l.length = 0 → idxL ws.length l = [] := fun e => List.length_eq_zero_iff.1 (by rw [hIl, e])
  generalize idxL ws.length l = I at *
  have e27 := cm27 q ws I (by omega)
  refine AWp.seq (AWp.of_awpD [] hΓ hmix (by kernel_rfl) ?_)
  simp -implicitDefEqProofs only [Frozen, go_sem]
  rcases prune_err h hI with ⟨_, hE⟩ | ⟨_, _, hE⟩ | ⟨hp, hl1, hE, hD⟩
  · obtain ⟨p1, u1, hp1, _⟩ := pruneW_c q ws I hws
    rw [hp1, hE] at e27
    unfold codeV at e27
    refine callK_fn e27 (.still rfl) ?_
    simp -implicitDefEqProofs only [go_sem]
    refine AWp.of_awpD [(14, 26)] hΓ hmix (by kernel_rfl) ?_
    simp -implicitDefEqProofs only [show ¬ (8 : Int) = 0 by decide, go_sem]
    refine callK_fn awake_ok (.pures rfl) ?_
    simp -implicitDefEqProofs only [go_sem]
  · obtain ⟨p1, u1, hp1, _⟩ := pruneW_c q ws I hws
    rw [hp1, hE] at e27
    unfold codeV at e27
    refine callK_fn e27 (.still rfl) ?_
    simp -implicitDefEqProofs only [go_sem]
    refine AWp.of_awpD [(14, 26)] hΓ hmix (by kernel_rfl) ?_
    simp -implicitDefEqProofs only [show ¬ (5 : Int) = 0 by decide, show ¬ (5 : Int) = 8 by decide, go_sem]
    refine callK_fn awake_ok (.pures rfl) ?_
    simp -implicitDefEqProofs only [go_sem]
  have hc : ∀ i (hi : i < (leftN ws I ws.length).length), cutN (othersN (leftN ws I ws.length) i) (leftN ws I ws.length)[i] ≤ (leftN ws I ws.length)[i].length := fun i hi => cut_in hv hp hi
  have hW : pruneW q ws I = codeV q (made (pruneN (leftN ws I ws.length) (leftN ws I ws.length).length)) := by unfold pruneW; rw [if_pos hE]
  have hcnt : ∀ i (hi : i < ws.length), ¬ (i : Int) ∈ I → (made (pruneN (leftN ws I ws.length) (leftN ws I ws.length).length)).countP (fun u => u.isPrefixOf ws[i]) = 1 := fun i hi hm => by
    obtain ⟨j, hj, hji⟩ := List.getElem_of_mem (leftN_in hi hm)
    have := prune_count hc hj
    rw [hji] at this
    exact this
  have hDl := prune_len hc
  have hDp := prune_pref hc
  have hsame : Kn.Whole q.toNat ws → I = [] → made (pruneN (leftN ws I ws.length) (leftN ws I ws.length).length) = ws := fun hw hi => by
    rw [hi, leftN_nil _ (Nat.le_refl _), List.take_length]
    exact whole_uncut hv hp hw
  rw [hW, hE] at e27
  have e15 := t38 q (made (pruneN (leftN ws I ws.length) (leftN ws I ws.length).length))
  rw [if_pos hD, if_pos hD, show aloneB (fun w x => x.isPrefixOf w) (made (pruneN (leftN ws I ws.length) (leftN ws I ws.length).length)) = true from hDp] at e15
  have e28 := cm28 q ws h
  have hDl64 := (valid_of hD).len
  generalize made (pruneN (leftN ws I ws.length) (leftN ws I ws.length).length) = D at *
  have e25 := u23 q q D ws (by omega)
  have e29 := cm29
  unfold oneR at e29
  unfold codeV at e27 e15 e28 e25
  refine callK_fn e27 (.still rfl) ?_
  simp -implicitDefEqProofs only [go_sem]
  refine AWp.seq (AWp.of_awpD [] hΓ hmix (by kernel_rfl) ?_)
  simp -implicitDefEqProofs only [go_sem]
  refine AWp.seq (AWp.of_awpD [] hΓ hmix (by kernel_rfl) ?_)
  simp -implicitDefEqProofs only [go_sem]
  refine callK_fn e15 (.still rfl) ?_
  simp -implicitDefEqProofs only [go_sem]
  refine AWp.seq (AWp.of_awpD [] hΓ hmix (by kernel_rfl) ?_)
  simp -implicitDefEqProofs only [go_sem]
  obtain ⟨A, B, hAB, himp⟩ : ∃ A B, Kn.ratV (Kn.krS q.toNat (ws.map List.length)) (q.toNat ^ 32) = .agg [.bool false, .str A, .bool false, .str B] ∧ (A = [1] → B = [1] → Kn.Whole q.toNat ws) := by
    refine ⟨_, _, rfl, fun hA hB => ?_⟩
    have hq0 : 0 < q.toNat := by have := hv.q2; omega
    have h1 : Kn.ratV (Kn.krS q.toNat (ws.map List.length)) (q.toNat ^ 32) = Kn.ratV 1 1 := by
      rw [ratV_one]
      unfold Kn.ratV
      rw [hA, hB]
    have h2 := (Kn.low_eq (Nat.pos_iff_ne_zero.1 (Nat.pow_pos hq0)) (by decide)).1 h1
    refine (pcode_of hv hp).whole_of ?_
    rw [Kn.taken_sum]
    show Kn.krS q.toNat (ws.map List.length) = _
    omega
  rw [hAB] at e28
  refine callK_fn e28 (.still rfl) ?_
  simp -implicitDefEqProofs only [go_sem]
  refine AWp.seqM (α := Unit) (fun _ => ⟨mkF 139 [(2, .ptr 0 0), (4, .p (.bool false)), (5, .p (.sl (I.map Kn.iV))), (8, .ptr 2 0)], [.box [.p (.int .i64 q), .p (.sl (ws.map .str))], .dead, .box [.p (.int .i64 q), .p (.sl (D.map .str))], .box [.p (.bool false), .p (.str A), .p (.bool false), .p (.str B)]]⟩) (fun _ => True) ?_ ?_
  · refine AWp.of_awpD [(14, 26)] hΓ hmix (by kernel_rfl) ?_
    by_cases l0 : l.length = 0
    · have l0' : ((l.length : Nat) : Int) = 0 := by omega
      simp -implicitDefEqProofs only [l0', List.length_map, go_sem]
      refine callVPK_fn e29 (.pures rfl) ?_
      simp -implicitDefEqProofs only [go_sem]
      refine aggR rfl rfl ?_
      cases hr : (decide (A = [1]) && decide (B = [1]))
      · simp -implicitDefEqProofs only [go_sem]
        simp [go_sem, weakH_self]
      · simp only [Bool.and_eq_true, decide_eq_true_eq] at hr
        have hsw := hsame (himp hr.1 hr.2) (hI0 l0)
        rw [decide_eq_true ⟨rfl, hsw⟩] at e25
        simp -implicitDefEqProofs only [go_sem]
        refine callVPK_fn e25 (.still rfl) ?_
        simp -implicitDefEqProofs only [go_sem]
        simp [go_sem, weakH_self]
    · have l0' : ¬ ((l.length : Nat) : Int) = 0 := by omega
      simp -implicitDefEqProofs only [l0', List.length_map, go_sem]
      simp [go_sem, weakH_self]
  · rintro _ -
    refine AWp.seq (AWp.of_awpD [] hΓ hmix (by kernel_rfl) ?_)
    simp -implicitDefEqProofs only [go_sem]
    refine AWp.seq (AWp.of_awpD [] hΓ hmix (by kernel_rfl) ?_)
    simp -implicitDefEqProofs only [go_sem]
    refine AWp.loopI (fun i : Nat => ⟨mkF 139 [(2, .ptr 0 0), (4, .p (.bool false)), (5, .p (.sl (I.map Kn.iV))), (8, .ptr 2 0), (14, .p (.int .i64 (leftN ws I i).length)), (103, .p (.sl (ws.map .str))), (104, .p (.int .i64 ws.length)), (105, .p (.int .i64 i))], [.box [.p (.int .i64 q), .p (.sl (ws.map .str))], .dead, .box [.p (.int .i64 q), .p (.sl (D.map .str))], .box [.p (.bool false), .p (.str A), .p (.bool false), .p (.str B)]]⟩)
      (fun i => i ≤ ws.length) (fun i => ws.length - i) 0 (by simp [go_sem, weakH_self, leftN]) (by omega) ?_
    intro i hi
    refine AWp.of_awpD [] hΓ hmix (by kernel_rfl) ?_
    have hLl := leftN_len ws I i
    by_cases hlt : i < ws.length
    · have hg : (ws.map PV.str).getD i default = .str ws[i] := getD_map_lt _ _ _ _ hlt
      have e16 := cm16 I i (by omega)
      by_cases hm : (i : Int) ∈ I
      · rw [decide_eq_true hm] at e16
        simp -implicitDefEqProofs only [hlt, hg, Int.toNat_natCast, go_sem]
        refine callK_fn e16 (.pures rfl) ?_
        simp -implicitDefEqProofs only [go_sem]
        exact ⟨by simp only [InR]; omega, i + 1, by rw [leftN_yes hm]; simp [weakH_self], hlt, by omega⟩
      · rw [decide_eq_false hm] at e16
        have hci := hcnt i hlt hm
        have hno := leftN_no hm hlt
        have hw32 := (hv.words ws[i] (List.getElem_mem hlt)).2.1
        simp -implicitDefEqProofs only [hlt, hg, Int.toNat_natCast, go_sem]
        refine callK_fn e16 (.pures rfl) ?_
        simp -implicitDefEqProofs only [go_sem]
        generalize ws[i] = w at *
        refine ⟨by simp only [InR]; omega, ?_⟩
        refine AWp.loopI (fun k : Nat => ⟨mkF 139 [(2, .ptr 0 0), (4, .p (.bool false)), (5, .p (.sl (I.map Kn.iV))), (8, .ptr 2 0), (14, .p (.int .i64 ((leftN ws I i).length + 1))), (16, .p (.str w)), (17, .p (.int .i64 ((D.take k).countP fun u => u.isPrefixOf w))), (103, .p (.sl (ws.map .str))), (104, .p (.int .i64 ws.length)), (105, .p (.int .i64 i)), (116, .p (.sl (D.map .str))), (117, .p (.int .i64 D.length)), (118, .p (.int .i64 k))], [.box [.p (.int .i64 q), .p (.sl (ws.map .str))], .dead, .box [.p (.int .i64 q), .p (.sl (D.map .str))], .box [.p (.bool false), .p (.str A), .p (.bool false), .p (.str B)]]⟩)
          (fun k => k ≤ D.length) (fun k => D.length - k) 0 (by simp [go_sem, weakH_self]) (by omega) ?_
        intro k hk
        refine AWp.of_awpD [] hΓ hmix (by kernel_rfl) ?_
        have hcl : (D.take k).countP (fun u => u.isPrefixOf w) ≤ 64 := Nat.le_trans List.countP_le_length (by rw [List.length_take]; omega)
        by_cases hlk : k < D.length
        · have hgk : (D.map PV.str).getD k default = .str D[k] := getD_map_lt _ _ _ _ hlk
          have hsu : (D.take (k + 1)).countP (fun u => u.isPrefixOf w) = (D.take k).countP (fun u => u.isPrefixOf w) + (if D[k].isPrefixOf w = true then 1 else 0) := by
            rw [List.take_succ_eq_append_getElem hlk, List.countP_append]
            simp [List.countP_cons]
          simp -implicitDefEqProofs only [hlk, hgk, Int.toNat_natCast, go_sem]
          refine callK_fn (t69 w D[k]) (.pures rfl) ?_
          cases hb : D[k].isPrefixOf w
          · rw [hb] at hsu
            simp -implicitDefEqProofs only [go_sem]
            exact ⟨by simp only [InR]; omega, k + 1, by rw [hsu]; simp [weakH_self], hlk, by omega⟩
          · rw [hb] at hsu
            simp -implicitDefEqProofs only [go_sem]
            exact ⟨by simp only [InR]; omega, by simp only [InR]; omega, k + 1, by rw [hsu]; simp [weakH_self], hlk, by omega⟩
        · have hkD : k = D.length := by omega
          subst hkD
          rw [List.take_length, hci]
          simp -implicitDefEqProofs only [Nat.lt_irrefl, Int.lt_irrefl, go_sem]
          refine ⟨fun _ => ⟨by simp only [InR]; omega, i + 1, ⟨by rw [hno]; simp, by omega⟩, hlt, by omega⟩, fun hne => hne (by omega)⟩
    · have hiw : i = ws.length := by omega
      subst hiw
      rw [← hDl]
      simp -implicitDefEqProofs only [Nat.lt_irrefl, Int.lt_irrefl, go_sem]
      refine AWp.of_awpD [] hΓ hmix (by kernel_rfl) ?_
      simp -implicitDefEqProofs only [go_sem]
      refine callK_fn awake_ok (.pures rfl) ?_
      simp -implicitDefEqProofs only [go_sem]
end Go.Proofs.YtjjedaikbgfmmaaGreat
end

