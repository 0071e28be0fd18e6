/-
  completion.missing.
  completion.missing, walked.
  Codes without beginnings of others, plain.
  Missing.
  Kraft's sum of a prefix code, plain: at most 1, and 1 exactly if nothing is missing.
  Words over an alphabet, and prefix codes as lists: plain.
  Completed prefix codes: plain.
  completion.extensions: the words that a word leads to, given out one by one.
  slices.Concat of empty lists; slices.Contains of numbers; Prune's test of indices.
  Complete.
  completion.Embed.
  Plain: the reference's Embed: a queue of words, each of which is given out or made longer.
  HasSuffix, Suffix.
  Prefix and Suffix of the reference, Suffix, Longest, Same, Make of the reference.
  slices.Equal of words.
  slices.Contains of numbers; an index that is none.
  completion.Prune.
  Words cut within themselves, plain.
  The reference's Prune.
  The reference's Sorted: words put in one by one.
-/
import Derived.Test.YtpljmccnfmkmfaaGreatJ7df3a5da96ba
import Derived.Test.YtpljmccnfmkmfaaGreatJeedd14ea9a83
import Derived.Test.YtpljmccnfmkmfaaGreatJ0340af87381c
import Derived.Test.YtpljmccnfmkmfaaGreatJ211b9e059869
import Derived.Test.YtpljmccnfmkmfaaGreatJ24a2471bd1cc

section
namespace Go.Proofs.YtpljmccnfmkmfaaGreat
open Go Go.AM Go.RowKit
set_option maxRecDepth 100000
set_option maxHeartbeats 4000000
set_option linter.unusedSimpArgs false

theorem km107 (a b : ByteArray) (w : World) : Calls Tryz.prog 128 #[.string a, .string b] w fun e w' => e = .returned (.int .i64 (cmpK a.data.toList b.data.toList)) ∧ ∃ q os, w' = Sort.grow (w.drewN q) os := by
  have hc1 := k103
  have hc2 := k104
  have hc3 := k102
  go_enter Tryz.func128, Tryz.ntmps128
  go_wp2_with (first | (go_at_call 76; refine (hc1 _ _ _).mono ?_; rintro e w' ⟨rfl, rfl⟩) | (go_at_call 163; refine (hc2 _ _ _).mono ?_; rintro e w' ⟨rfl, rfl⟩) | (go_at_call 162; refine (hc3 _ _ _ _ _ (newCells _ _ _ _ _ rfl) (newCells _ _ _ _ _ rfl)).mono ?_; rintro e w' ⟨rfl, rfl⟩))
  all_goals go_ret
  all_goals have e1 : ∀ x : ByteArray, x.data.toList.length = x.size := fun x => by simp
  · refine ⟨congrArg (fun n => Ending.returned (Value.int .i64 n)) ?_, 0, #[_], by rw [Sort.alloc_eq_grow]; rfl⟩
    have hs : a.size = b.size := by
      rcases Nat.lt_trichotomy a.size b.size with g | g | g
      · rw [if_pos g] at h; cases h
      · exact g
      · rw [if_neg (by omega), if_pos g] at h; cases h
    unfold cmpK
    simp only [e1, hs]
    rw [if_pos (by simp)]
  · refine ⟨congrArg (fun n => Ending.returned (Value.int .i64 n)) ?_, 0, #[_], by rw [Sort.alloc_eq_grow]; rfl⟩
    unfold cmpK
    simp only [e1]
    rw [if_pos (show (a.size : Int) < b.size by omega)]; rfl
  · refine ⟨congrArg (fun n => Ending.returned (Value.int .i64 n)) ?_, 0, #[_], by rw [Sort.alloc_eq_grow]; rfl⟩
    unfold cmpK
    simp only [e1]
    rw [if_neg (show ¬ (a.size : Int) < b.size by omega), if_pos (show (b.size : Int) < a.size by omega)]; rfl
theorem sort_calls107 (d : List (List UInt8)) (blk off cap : Nat) (w : World) (hH : Sort.Holds encW w blk off d.toArray) (hblk : blk < w.heap.size) (hsz : d.length < 4611686018427387904) :
    Calls Tryz.prog 127 #[.slice (some ⟨blk, off, none⟩) d.length cap, .func (.func 128) #[] #[]] w fun e w' => e = .returned (.tuple #[]) ∧ ∃ n os, w' = sortWorld encW w blk off n (sortW d).toArray os := by
  have eg : ∀ args w, (callFunc 128 args).run Tryz.prog w = .ok (.enter 128 args) w := entersF_of Tryz.func128 (by kernel_rfl) rfl
  have hcmp : CmpLays1 Tryz.prog 128 #[] encW cmpK blk off d.toArray.size w := fun m os dk _ x y => km107 ⟨x.toArray⟩ ⟨y.toArray⟩ _
  have h := Any.slices_SortFunc_total Tryz.sortS encW (fun _ => rfl) cmpK swoW 128 #[] blk off cap d.toArray w eg hcmp hH hblk (by simpa using hsz) (fun x y h1 h2 => ltW_total ((ltOf_false x y).1 h1) ((ltOf_false y x).1 h2))
  exact h
theorem cm106 {h : List AObj} {b : Nat} (l : List (List UInt8)) (hb : h[b]? = some (.row 9 1 (l.map .str) .own)) (hsz : l.length ≤ 1000000) :
    AC Tryz.prog 127 [.own b l.length, .fn 128 []] h [] (fun v h' => v = .tup [] ∧ h' = h.set b (.row 9 1 ((sortW l).map .str) .own)) := c83_of sort_calls107 l hb hsz

def letA (a : Nat) : UInt8 := L16.getD a 0
def begB (ws : List (List UInt8)) (x : List UInt8) : Bool := ws.any fun y => x.isPrefixOf y
def missA (ws : List (List UInt8)) (p : List UInt8) (a : Nat) : List (List UInt8) := if begB ws (p ++ [letA a]) = true then [] else [p ++ [letA a]]
def missP (ws : List (List UInt8)) (p : List UInt8) (k : Nat) : List (List UInt8) := (List.range k).flatMap (missA ws p)
def missW (q : Nat) (ws : List (List UInt8)) (w : List UInt8) (n : Nat) : List (List UInt8) := (List.range n).flatMap fun m => missP ws (w.take m) q
def missL (q : Nat) (ws : List (List UInt8)) (i : Nat) : List (List UInt8) := (List.range i).flatMap fun j => missW q ws (ws.getD j []) (ws.getD j []).length
def missing (q : Nat) (ws : List (List UInt8)) : List (List UInt8) := made (missL q ws ws.length)

theorem missP_succ (ws : List (List UInt8)) (p : List UInt8) (k : Nat) : missP ws p (k + 1) = missP ws p k ++ missA ws p k := by unfold missP; rw [List.range_succ, List.flatMap_append]; simp
theorem missW_succ (q : Nat) (ws : List (List UInt8)) (w : List UInt8) (n : Nat) : missW q ws w (n + 1) = missW q ws w n ++ missP ws (w.take n) q := by unfold missW; rw [List.range_succ, List.flatMap_append]; simp
theorem missL_succ {q : Nat} {ws : List (List UInt8)} {i : Nat} (hi : i < ws.length) : missL q ws (i + 1) = missL q ws i ++ missW q ws ws[i] ws[i].length := by
  have e : ws.getD i [] = ws[i] := by rw [List.getD_eq_getElem?_getD, List.getElem?_eq_getElem hi, Option.getD_some]
  unfold missL; rw [List.range_succ, List.flatMap_append, List.flatMap_singleton, e]
theorem missP_len (ws : List (List UInt8)) (p : List UInt8) : ∀ k, (missP ws p k).length ≤ k
  | 0 => by simp [missP]
  | k + 1 => by
    have ih := missP_len ws p k
    rw [missP_succ, List.length_append]
    unfold missA
    split <;> simp only [List.length_nil, List.length_cons] <;> omega
theorem missW_len (q : Nat) (ws : List (List UInt8)) (w : List UInt8) : ∀ n, (missW q ws w n).length ≤ q * n
  | 0 => by simp [missW]
  | n + 1 => by
    have ih := missW_len q ws w n
    have h2 := missP_len ws (w.take n) q
    rw [missW_succ, List.length_append, Nat.mul_succ]
    omega
theorem missL_len {q : Nat} {ws : List (List UInt8)} (hq : q ≤ 16) (hw : ∀ x ∈ ws, x.length ≤ 32) : ∀ i, i ≤ ws.length → (missL q ws i).length ≤ 512 * i
  | 0, _ => by simp [missL]
  | i + 1, hi => by
    have ih := missL_len hq hw i (by omega)
    have h2 := missW_len q ws ws[i] ws[i].length
    have h3 := hw ws[i] (List.getElem_mem _)
    rw [missL_succ hi, List.length_append]
    have : q * ws[i].length ≤ 16 * 32 := Nat.mul_le_mul hq h3
    omega

def rkOf (l : List (List UInt8)) : RK := if l = [] then .lax else .own
theorem rkOf_snoc (l : List (List UInt8)) (x : List UInt8) : rkOf (l ++ [x]) = .own := by unfold rkOf; rw [if_neg (by simp)]
end Go.Proofs.YtpljmccnfmkmfaaGreat
end

section
namespace Go.Proofs.YtpljmccnfmkmfaaGreat
open Go Go.AM Go.RowKit
set_option maxRecDepth 100000
set_option maxHeartbeats 4000000
set_option linter.unusedSimpArgs false

def miH (q : Nat) (ws : List (List UInt8)) (out : List (List UInt8)) (w : List UInt8) (rec : AObj) : List AObj :=
  [.box [.p (.int .i64 q), .p (.sl (ws.map .str))], .box [.own 2 out.length], .row 9 1 (out.map .str) (rkOf out), .box [.p (.str w)], rec]

theorem sub_letters {a : Nat} (ha : a < 16) : List.take 1 (List.drop a [48, 49, 50, 51, 52, 53, 54, 55, 56, 57, 97, 98, 99, 100, 101, 102]) = [letA a] := by
  have : ∀ a, a < 16 → List.take 1 (List.drop a ([48, 49, 50, 51, 52, 53, 54, 55, 56, 57, 97, 98, 99, 100, 101, 102] : List UInt8)) = [letA a] := by decide
  exact this a ha

theorem AWp.name {E : Env} {r : Option Nat} {c : Code} {Q : Exit → St → Prop} {tm : List AV} {h : List AObj} (hw : ∀ h0, h0 = h → AWp E r c Q ⟨tm, h0⟩) : AWp E r c Q ⟨tm, h⟩ := hw h rfl
theorem c116m {q : Nat} {ws : List (List UInt8)} {out : Nat → List (List UInt8)} {w : List UInt8} (hwl : w.length ≤ 100000) {tm : List AV} {ps : List Nat} {cs bd : Code}
    (hround : ∀ n, n < w.length + 1 → n ≤ w.length → YC Tryz.prog 4 [.p (.str (w.take n))] (miH q ws (out n) w (.lp tm ps cs bd .ready)) [2] (fun v h' => v = .p (.bool true) ∧ h' = miH q ws (out (n + 1)) w (.lp tm ps cs bd .ready))) :
    AC Tryz.prog 182 [.yld 4, .ptr 3 0] (miH q ws (out 0) w (.lp tm ps cs bd .ready)) [2] (fun _ h' => h' = miH q ws (out (w.length + 1)) w (.lp tm ps cs bd .ready)) :=
  c116 (by simp) (by simp) w hwl (fun n => miH q ws (out n) w (.lp tm ps cs bd .ready)) (w.length + 1) (w.length + 1) (by simp [miH]) (fun n _ => rfl) hround (.inl ⟨rfl, rfl⟩)

theorem cm62 (q : Nat) (ws : List (List UInt8)) (hv : Valid q ws) : PFn Tryz.prog 63 [codeV q ws] [.sl ((missing q ws).map .str)] := by
  have hlen := hv.len
  have hq16 := hv.q16
  have hws := hv.words
  refine PFn.of_body hΓ Tryz.func63 (by kernel_rfl) rfl (AWp.seq (AWp.of_awpD [] hΓ hmix (by kernel_rfl) ?_))
  simp -implicitDefEqProofs only [Tryz.ntmps63, Tryz.results63, Nat.reduceAdd, Nat.reduceSub, codeV, go_sem]
  refine AWp.seq (AWp.of_awpD [] hΓ hmix (by kernel_rfl) ?_)
  simp -implicitDefEqProofs only [go_sem]
  refine AWp.adoptBox (l := []) 1 9 1 rfl (by simp) ?_
  simp -implicitDefEqProofs only [List.set_cons_zero, List.set_cons_succ, go_sem]
  refine AWp.seq (AWp.of_awpD [] hΓ hmix (by kernel_rfl) ?_)
  simp -implicitDefEqProofs only [go_sem]
  refine AWp.loopJ (fun i : Nat => ⟨mkF 49 [(1, .ptr 0 0), (3, .ptr 1 0), (10, .p (.sl (ws.map .str))), (11, .p (.int .i64 ws.length)), (12, .p (.int .i64 i))], [.box [.p (.int .i64 q), .p (.sl (ws.map .str))], .box [.own 2 (missL q ws i).length], .row 9 1 ((missL q ws i).map .str) (rkOf (missL q ws i))]⟩)
    (fun i => i ≤ ws.length) (fun i => ws.length - i) 0 (fun x => by simp [BelowAll, mkF, AV.blw, AV.blw.blwL, blwH, AObj.blw]) (by simp [go_sem, missL, rkOf]) (by omega) ?_
  intro i hi
  refine AWp.seq (AWp.of_awpD [] hΓ hmix (by kernel_rfl) ?_)
  simp -implicitDefEqProofs only [go_sem]
  by_cases hlt : i < ws.length
  · have hlt' : (i : Int) < (ws.length : Int) := by omega
    have hg : (ws.map PV.str).getD i default = .str ws[i] := getD_map_lt _ _ _ _ hlt
    obtain ⟨hw0, hw32, hwc⟩ := hws ws[i] (List.getElem_mem hlt)
    have hwp : 0 < ws[i].length := List.length_pos_iff.2 hw0
    refine AWp.seq (AWp.of_awpD [] hΓ hmix (by kernel_rfl) ?_)
    simp -implicitDefEqProofs only [hlt, go_sem]
    refine AWp.seq (AWp.block ?_)
    refine AWp.seq (AWp.of_awpD [] hΓ hmix (by kernel_rfl) ?_)
    simp -implicitDefEqProofs only [hlt, hg, Int.toNat_natCast, go_sem]
    refine AWp.seq (AWp.of_awpD [] hΓ hmix (by kernel_rfl) ?_)
    simp -implicitDefEqProofs only [go_sem]
    refine ⟨by simp only [InR]; omega, ⟨by omega, by omega⟩, ?_⟩
    refine callK_ac (c73 _) (by simp) ?_
    rintro v h' ⟨rfl, rfl⟩
    simp -implicitDefEqProofs only [killAll, List.foldl, go_sem]
    generalize hwe : ws[i] = w at *
    have hz : ((w.length : Int) - 1).toNat = w.length - 1 := by omega
    rw [hz]
    have hlL := missL_len (q := q) (ws := ws) (by omega) (fun x hx => (hws x hx).2.1) i (by omega)
    have hs0 := missL_succ (q := q) hlt
    rw [hwe] at hs0
    have htk : ∀ n, n ≤ w.length - 1 → (w.take (w.length - 1)).take n = w.take n := fun n hn => by rw [List.take_take, Nat.min_eq_left hn]
    have hwl' : (w.take (w.length - 1)).length = w.length - 1 := by rw [List.length_take]; omega
    generalize hxe : w.take (w.length - 1) = x at *
    refine AWp.block ?_
    refine AWp.weak (st' := ⟨mkF 49 [(1, .ptr 0 0), (3, .ptr 1 0), (10, .p (.sl (ws.map .str))), (11, .p (.int .i64 ws.length)), (12, .p (.int .i64 i)), (21, .fn 182 [.ptr 3 0])], [.box [.p (.int .i64 q), .p (.sl (ws.map .str))], .box [.own 2 (missL q ws i ++ missW q ws w 0).length], .row 9 1 ((missL q ws i ++ missW q ws w 0).map .str) (rkOf (missL q ws i ++ missW q ws w 0)), .box [.p (.str x)]]⟩) (by simp [go_sem, weakH_self, missW]) ?_
    rw [show (#[22] : Array Nat) = [22].toArray from rfl]
    refine AWp.rangeFunc (ks := [2]) rfl (c116m (q := q) (ws := ws) (out := fun n => missL q ws i ++ missW q ws w n) (w := x) (by omega) ?_) (by simp) (by simp) ?_
    · intro n hn hnx
      rw [htk n (by omega)]
      have hpl : (w.take n).length ≤ 32 := by rw [List.length_take]; omega
      have hmw := missW_len q ws w n
      have hmw2 : q * n ≤ 16 * 32 := Nat.mul_le_mul (by omega) (by omega)
      have hnext : missW q ws w (n + 1) = missW q ws w n ++ missP ws (w.take n) q := missW_succ q ws w n
      rw [hnext]
      generalize hpe : w.take n = p at *
      generalize hoe : missL q ws i ++ missW q ws w n = out at *
      have hol : out.length ≤ 512 * 64 + 512 := by rw [← hoe, List.length_append]; omega
      rw [← List.append_assoc, hoe]
      unfold miH
      refine YC.of_body (Γ := Γ) rfl rfl (by simp) ?_
      intro rr
      refine AWp.of_awpD [] hΓ hmix (by kernel_rfl) ?_
      simp -implicitDefEqProofs only [setP, go_sem]
      unfold BeginE
      refine ⟨rfl, ?_⟩
      simp -implicitDefEqProofs only [go_sem]
      refine AWp.of_awpD [] hΓ hmix (by kernel_rfl) ?_
      simp -implicitDefEqProofs only [go_sem]
      refine AWp.name ?_
      intro h0 hh0
      obtain ⟨rec, hh⟩ : ∃ rec, h0 = [.box [.p (.int .i64 q), .p (.sl (ws.map .str))], .box [.own 2 out.length], .row 9 1 (out.map .str) (rkOf out), .box [.p (.str x)], rec] := ⟨_, hh0⟩
      rw [hh] at hh0 ⊢
      simp only [List.cons.injEq, true_and, and_true] at hh0
      refine AWp.loopI (fun a : Nat => ⟨mkF 49 [(1, .ptr 0 0), (3, .ptr 1 0), (6, .p (.str p)), (24, .p (.int .i64 q)), (25, .p (.int .i64 a))], [.box [.p (.int .i64 q), .p (.sl (ws.map .str))], .box [.own 2 (out ++ missP ws p a).length], .row 9 1 ((out ++ missP ws p a).map .str) (rkOf (out ++ missP ws p a)), .box [.p (.str x)], rec]⟩)
        (fun a => a ≤ q) (fun a => q - a) 0 (by simp [go_sem, weakH_self, missP]) (by omega) ?_
      intro a ha
      refine AWp.of_awpD [] hΓ hmix (by kernel_rfl) ?_
      have hPl := missP_len ws p a
      by_cases hlta : a < q
      · have hlta' : (a : Int) < (q : Int) := by omega
        have h1 : ((a : Int) + 1).toNat - a = 1 := by omega
        have h16 : a < 16 := by omega
        have e74 := cm74 ws (p ++ [letA a]) (by omega)
        have hsuc := missP_succ ws p a
        have hkr : AObj.kill 2 rec = rec := by rw [hh0]; simp [AObj.kill, AV.kill, AV.kill.killL]
        have hs1 : sizeOK [PV.str (p ++ [letA a])] 1 := by simp [sizeOK, PV.cells]
        have ho1 : oneOK [PV.str (p ++ [letA a])] := by simp [oneOK, PV.cells, PV.isAgg]
        simp -implicitDefEqProofs only [hlta, Int.toNat_natCast, h1, sub_letters h16, go_sem]
        refine ⟨by simp only [InR]; omega, ⟨by omega, by omega⟩, by omega, callK_fn e74 (.pures rfl) ?_⟩
        cases hb : ws.any fun x => (p ++ [letA a]).isPrefixOf x
        · have hm : missA ws p a = [p ++ [letA a]] := by unfold missA begB; rw [hb]; rfl
          rw [hm] at hsuc
          have hkb : ∀ l, AObj.kill 2 (.box l) = .box (l.map (AV.kill 2)) := fun _ => rfl
          have hko : ∀ E s xs k, AObj.kill 2 (.row E s xs k) = .row E s xs k := fun _ _ _ _ => rfl
          simp -implicitDefEqProofs only [hkr, hkb, hko, AV.kill, AV.kill.killL, go_sem]
          refine ⟨⟨hs1, by omega⟩, ⟨hs1, ho1⟩, ⟨by unfold rkOf; split <;> simp, .inr (by simp), by rw [List.length_append]; omega, by rw [List.length_append]; omega⟩, by simp only [InR]; omega, a + 1, ?_, by omega, by omega⟩
          rw [hsuc, ← List.append_assoc, rkOf_snoc]
          simp
          exact ⟨by omega, .inr (.inl hkr.symm)⟩
        · have hm : missA ws p a = [] := by unfold missA begB; rw [hb]; rfl
          rw [hm, List.append_nil] at hsuc
          simp -implicitDefEqProofs only [go_sem]
          exact ⟨by simp only [InR]; omega, a + 1, by rw [hsuc]; simp [weakH_self], by omega, by omega⟩
      · have haq : a = q := by omega
        subst haq
        subst hh0
        simp -implicitDefEqProofs only [Int.lt_irrefl, Nat.lt_irrefl, go_sem]
        unfold RoundE
        simp -implicitDefEqProofs only [go_sem]
        exact ⟨5, Nat.le_refl _, .inl rfl, rfl⟩
    · rintro v h' rfl
      unfold miH RangeK
      simp -implicitDefEqProofs only [killAll, List.foldl, go_sem]
      refine AWp.of_awpD [] hΓ hmix (by kernel_rfl) ?_
      simp -implicitDefEqProofs only [List.set_cons_zero, List.set_cons_succ, go_sem]
      have hxl : x.length + 1 = w.length := by omega
      rw [hxl]
      exact ⟨by simp only [InR]; omega, i + 1, ⟨by simp, by rw [hs0], .inl ⟨by rw [hs0], by rw [hs0]⟩⟩, hlt, by omega⟩
  have hiw : i = ws.length := by omega
  subst hiw
  refine AWp.of_awpD [] hΓ hmix (by kernel_rfl) ?_
  simp -implicitDefEqProofs only [Int.lt_irrefl, Nat.lt_irrefl, go_sem]
  have hlL := missL_len (q := q) (ws := ws) (by omega) (fun x hx => (hws x hx).2.1) ws.length (Nat.le_refl _)
  unfold missing
  generalize missL q ws ws.length = out at *
  refine AWp.of_awpD [] hΓ hmix (by kernel_rfl) ?_
  simp -implicitDefEqProofs only [go_sem]
  by_cases h0 : out = []
  · subst h0
    refine callK_ac (c83n (b := 2)) (by simp) ?_
    rintro v h' ⟨rfl, rfl⟩
    simp -implicitDefEqProofs only [killAll, List.foldl, go_sem]
    refine callK_ac (c107n (b := 2)) (by simp) ?_
    rintro v h' ⟨rfl, rfl⟩
    simp -implicitDefEqProofs only [killAll, List.foldl, made_nil, go_sem]
  · have hrk : rkOf out = .own := by unfold rkOf; rw [if_neg h0]
    rw [hrk]
    refine callK_ac (cm106 out rfl (by omega)) (by simp) ?_
    rintro v h' ⟨rfl, rfl⟩
    have hsl := sortW_length out
    simp -implicitDefEqProofs only [killAll, List.foldl, List.set_cons_zero, List.set_cons_succ, go_sem]
    rw [← hsl]
    refine callK_ac (c107 (sortW out) rfl (by omega)) (by simp) ?_
    rintro v h' ⟨rfl, rfl⟩
    simp -implicitDefEqProofs only [killAll, List.foldl, List.set_cons_zero, List.set_cons_succ, made, go_sem]
end Go.Proofs.YtpljmccnfmkmfaaGreat
end

section
namespace Go.Proofs.YtpljmccnfmkmfaaGreat
open Go Go.AM
set_option maxRecDepth 100000
set_option maxHeartbeats 4000000
set_option linter.unusedSimpArgs false

def prefB (ws : List (List UInt8)) : Bool := aloneB (fun w x => x.isPrefixOf w) ws
theorem alone_iff {pr : List UInt8 → List UInt8 → Bool} {ws : List (List UInt8)} (hd : ws.Nodup) : aloneB pr ws = true ↔ ∀ x ∈ ws, ∀ y ∈ ws, pr x y = true → x = y := by
  have get : ∀ i (h : i < ws.length), ws.getD i [] = ws[i] := fun i h => by rw [List.getD_eq_getElem?_getD, List.getElem?_eq_getElem h, Option.getD_some]
  unfold aloneB aloneN aloneTo
  simp only [List.all_eq_true, List.mem_range, Bool.or_eq_true, decide_eq_true_eq, Bool.not_eq_true']
  constructor
  · intro h x hx y hy hp
    obtain ⟨i, hi, rfl⟩ := List.getElem_of_mem hx
    obtain ⟨k, hk, rfl⟩ := List.getElem_of_mem hy
    rcases h i hi k hk with e | e
    · subst e; rfl
    · rw [get i hi, get k hk, hp] at e; cases e
  · intro h i hi k hk
    by_cases e : i = k
    · exact .inl e
    · right
      rw [get i hi, get k hk]
      cases hp : pr ws[i] ws[k] with
      | false => rfl
      | true =>
        have := h _ (List.getElem_mem hi) _ (List.getElem_mem hk) hp
        have hp := List.pairwise_iff_getElem.1 (show ws.Pairwise (· ≠ ·) from hd)
        rcases Nat.lt_trichotomy i k with hik | hik | hik
        · exact absurd this (hp i k hi hk hik)
        · exact absurd hik e
        · exact absurd this.symm (hp k i hk hi hik)
theorem strict_nodup {ws : List (List UInt8)} (h : ws.Pairwise ltW) : ws.Nodup := List.Pairwise.imp (fun {a b} (hab : ltW a b) (e : a = b) => ltW_irrefl b (by rw [e] at hab; exact hab)) h
theorem Valid.strict {q : Int} {ws : List (List UInt8)} (hv : Valid q ws) : ws.Pairwise ltW := List.pairwise_iff_getElem.2 fun i j hi hj hij => by
  have := hv.lt i j hij hj
  rwa [List.getD_eq_getElem?_getD, List.getD_eq_getElem?_getD, List.getElem?_eq_getElem hi, List.getElem?_eq_getElem hj, Option.getD_some, Option.getD_some] at this
end Go.Proofs.YtpljmccnfmkmfaaGreat
end

section
namespace Go.Proofs.YtpljmccnfmkmfaaGreat
open Go Go.AM
set_option maxRecDepth 100000
set_option maxHeartbeats 4000000
set_option linter.unusedSimpArgs false

def missV (q : Int) (ws : List (List UInt8)) : List (List UInt8) := if chE q ws = 0 then missing q.toNat ws else []

theorem chE_valid {q : Int} {ws : List (List UInt8)} (hc : chE q ws = 0) : Valid q ws ∧ prefB ws = true := by
  have hv' : codeCheck q ws = 0 := by
    unfold chE at hc
    by_cases h : codeCheck q ws = 0
    · exact h
    · rw [if_neg h] at hc; omega
  refine ⟨valid_of hv', ?_⟩
  unfold chE at hc
  rw [if_pos hv'] at hc
  by_cases h : preP ws = true
  · exact h
  · rw [if_neg h] at hc; omega

theorem cm18 (q : Int) (ws : List (List UInt8)) : PFn Tryz.prog 14 [codeV q ws] [.sl ((missV q ws).map .str), .int .i64 (chE q ws)] := by
  have e61 := cm61 q ws
  refine PFn.of_body hΓ Tryz.func14 (by kernel_rfl) rfl (AWp.of_awpD [] hΓ hmix (by kernel_rfl) ?_)
  simp -implicitDefEqProofs only [Tryz.ntmps14, Tryz.results14, Nat.reduceAdd, Nat.reduceSub, codeV, go_sem]
  unfold codeV at e61
  refine callK_fn e61 (.still rfl) ?_
  unfold missV
  by_cases hc : chE q ws = 0
  · obtain ⟨hv, _⟩ := chE_valid hc
    have hq : ((q.toNat : Nat) : Int) = q := by have := hv.q2; omega
    have e62 := cm62 q.toNat ws (by rw [hq]; exact hv)
    rw [hq] at e62
    unfold codeV at e62
    rw [hc]
    simp -implicitDefEqProofs only [go_sem]
    refine callK_fn e62 (.still rfl) ?_
    simp -implicitDefEqProofs only [go_sem]
  · simp -implicitDefEqProofs only [hc, List.map_nil, go_sem]

end Go.Proofs.YtpljmccnfmkmfaaGreat
end

section
namespace Go.Proofs.YtpljmccnfmkmfaaGreat.Kn
open Go Go.AM
set_option maxRecDepth 100000
set_option linter.unusedSimpArgs false

def ltr (a : Nat) : UInt8 := L16.getD a 0
theorem ltr_inj {a b : Nat} (ha : a < 16) (hb : b < 16) (h : ltr a = ltr b) : a = b := by
  have key : ∀ a : Fin 16, ∀ b : Fin 16, L16.getD a.val 0 = L16.getD b.val 0 → a = b := by decide
  have := key ⟨a, ha⟩ ⟨b, hb⟩ h
  exact congrArg Fin.val this
def Alph (q : Nat) (w : List UInt8) : Prop := ∀ b ∈ w, ∃ a, a < q ∧ b = ltr a

def wtN (q : Nat) (w : List UInt8) : Nat := q ^ (32 - w.length)
def taken (q : Nat) (p : List UInt8) : List (List UInt8) → Nat
  | [] => 0
  | w :: ws => (if p.isPrefixOf w then wtN q w else 0) + taken q p ws

theorem pre_iff {p w : List UInt8} : p.isPrefixOf w = true ↔ ∃ t, w = p ++ t := by
  rw [List.isPrefixOf_iff_prefix]
  exact ⟨fun ⟨t, h⟩ => ⟨t, h.symm⟩, fun ⟨t, h⟩ => ⟨t, h.symm⟩⟩
theorem pre_snoc {p w : List UInt8} {b : UInt8} (h : (p ++ [b]).isPrefixOf w = true) : p.isPrefixOf w = true := by
  obtain ⟨t, ht⟩ := pre_iff.1 h
  exact pre_iff.2 ⟨[b] ++ t, by rw [ht, List.append_assoc]⟩
theorem pre_uniq {p w : List UInt8} {b c : UInt8} (h1 : (p ++ [b]).isPrefixOf w = true) (h2 : (p ++ [c]).isPrefixOf w = true) : b = c := by
  obtain ⟨t, ht⟩ := pre_iff.1 h1
  obtain ⟨s, hs⟩ := pre_iff.1 h2
  rw [ht, List.append_assoc, List.append_assoc] at hs
  have := List.append_cancel_left hs
  simp at this
  exact this.1
theorem pre_more {p w : List UInt8} (h : p.isPrefixOf w = true) (hne : w ≠ p) : ∃ b, b ∈ w ∧ (p ++ [b]).isPrefixOf w = true := by
  obtain ⟨t, ht⟩ := pre_iff.1 h
  cases t with
  | nil => exact absurd (by simpa using ht) hne
  | cons b t => exact ⟨b, by rw [ht]; simp, pre_iff.2 ⟨t, by rw [ht]; simp⟩⟩

theorem sumN_add (F G : Nat → Nat) : ∀ n, sumN (fun j => F j + G j) n = sumN F n + sumN G n
  | 0 => rfl
  | n + 1 => by
    have ih := sumN_add F G n
    have e1 : sumN (fun j => F j + G j) (n + 1) = sumN (fun j => F j + G j) n + (F n + G n) := rfl
    have e2 : sumN F (n + 1) = sumN F n + F n := rfl
    have e3 : sumN G (n + 1) = sumN G n + G n := rfl
    omega
theorem sumN_one {F : Nat → Nat} {k c : Nat} : ∀ {n : Nat}, k < n → F k = c → (∀ j, j < n → j ≠ k → F j = 0) → sumN F n = c
  | 0, h, _, _ => by omega
  | n + 1, h, hc, h0 => by
    have e : sumN F (n + 1) = sumN F n + F n := rfl
    by_cases hk : k = n
    · subst hk
      rw [e, sumN_zero (fun j hj => h0 j (by omega) (by omega)), hc, Nat.zero_add]
    · rw [e, sumN_one (n := n) (by omega) hc (fun j hj hne => h0 j (by omega) hne), h0 n (by omega) (fun h => hk h.symm), Nat.add_zero]
theorem sumN_le {F : Nat → Nat} {B : Nat} : ∀ {n : Nat}, (∀ j, j < n → F j ≤ B) → sumN F n ≤ n * B
  | 0, _ => Nat.zero_le _
  | n + 1, h => by
    have e : sumN F (n + 1) = sumN F n + F n := rfl
    have := sumN_le (n := n) (fun j hj => h j (by omega))
    have := h n (by omega)
    rw [e, Nat.succ_mul]; omega
theorem sumN_full {F : Nat → Nat} {B : Nat} : ∀ {n : Nat}, (∀ j, j < n → F j ≤ B) → sumN F n = n * B → ∀ j, j < n → F j = B
  | 0, _, _ => fun j hj => by omega
  | n + 1, h, hs => by
    have e : sumN F (n + 1) = sumN F n + F n := rfl
    have h1 := sumN_le (n := n) (fun j hj => h j (by omega))
    have h2 := h n (by omega)
    rw [e, Nat.succ_mul] at hs
    have ih := sumN_full (n := n) (fun j hj => h j (by omega)) (by omega)
    intro j hj
    by_cases hjn : j = n
    · subst hjn; omega
    · exact ih j (by omega)
theorem taken_split {q : Nat} (hq : q ≤ 16) (p : List UInt8) : ∀ {ws : List (List UInt8)}, (∀ w ∈ ws, Alph q w) → (∀ w ∈ ws, w ≠ p) → taken q p ws = sumN (fun a => taken q (p ++ [ltr a]) ws) q
  | [], _, _ => by
    symm
    exact sumN_zero fun _ _ => rfl
  | w :: ws, hA, hne => by
    have ih := taken_split hq p (ws := ws) (fun x hx => hA x (by simp [hx])) (fun x hx => hne x (by simp [hx]))
    show (if p.isPrefixOf w then wtN q w else 0) + taken q p ws = sumN (fun a => (if (p ++ [ltr a]).isPrefixOf w then wtN q w else 0) + taken q (p ++ [ltr a]) ws) q
    rw [sumN_add, ← ih]
    congr 1
    by_cases hp : p.isPrefixOf w = true
    · obtain ⟨b, hb, hbw⟩ := pre_more hp (hne w (by simp))
      obtain ⟨a, ha, rfl⟩ := hA w (by simp) b hb
      rw [if_pos hp]
      symm
      refine sumN_one ha (by simp only [hbw, if_true]) fun j hj hja => ?_
      rw [if_neg]
      intro hjw
      exact hja (ltr_inj (by omega) (by omega) (pre_uniq hjw hbw))
    · rw [if_neg hp]
      symm
      refine sumN_zero fun j hj => ?_
      rw [if_neg]
      exact fun h => hp (pre_snoc h)

structure PCode (q : Nat) (ws : List (List UInt8)) : Prop where
  q0 : 0 < q
  q16 : q ≤ 16
  nodup : ws.Nodup
  free : ∀ x ∈ ws, ∀ y ∈ ws, y.isPrefixOf x = true → x = y
  alph : ∀ w ∈ ws, Alph q w
  short : ∀ w ∈ ws, w.length ≤ 32

theorem taken_none {q : Nat} {p : List UInt8} : ∀ {ws : List (List UInt8)}, (∀ w ∈ ws, ¬ p.isPrefixOf w = true) → taken q p ws = 0
  | [], _ => rfl
  | w :: ws, h => by
    show (if p.isPrefixOf w then wtN q w else 0) + taken q p ws = 0
    rw [if_neg (h w (by simp)), taken_none (fun x hx => h x (by simp [hx]))]
theorem taken_word {q : Nat} {p : List UInt8} : ∀ {ws : List (List UInt8)}, p ∈ ws → ws.Nodup → (∀ x ∈ ws, p.isPrefixOf x = true → x = p) → taken q p ws = wtN q p
  | w :: ws, hp, hd, hf => by
    show (if p.isPrefixOf w then wtN q w else 0) + taken q p ws = _
    have hd' := List.nodup_cons.1 hd
    by_cases hw : p.isPrefixOf w = true
    · have e := hf w (by simp) hw
      subst e
      rw [if_pos hw, taken_none (fun x hx h => ?_), Nat.add_zero]
      have := hf x (by simp [hx]) h
      subst this
      exact hd'.1 hx
    · rw [if_neg hw, Nat.zero_add]
      have hne : p ≠ w := fun e => hw (by rw [e]; exact List.isPrefixOf_iff_prefix.2 (List.prefix_refl _))
      exact taken_word (by simpa [hne] using hp) hd'.2 (fun x hx => hf x (by simp [hx]))
theorem PCode.word {q : Nat} {ws : List (List UInt8)} (h : PCode q ws) {p : List UInt8} (hp : p ∈ ws) : taken q p ws = wtN q p :=
  taken_word hp h.nodup fun x hx hpx => h.free x hx p hp hpx

theorem PCode.le {q : Nat} {ws : List (List UInt8)} (h : PCode q ws) : ∀ (d : Nat) (p : List UInt8), p.length + d = 32 → taken q p ws ≤ q ^ d
  | d, p, hl => by
    by_cases hp : p ∈ ws
    · rw [h.word hp]
      unfold wtN
      rw [show 32 - p.length = d by omega]
      exact Nat.le_refl _
    · have hne : ∀ w ∈ ws, w ≠ p := fun w hw e => hp (e ▸ hw)
      cases d with
      | zero =>
        rw [taken_none fun w hw hpw => ?_]
        · exact Nat.zero_le _
        · obtain ⟨b, _, hb⟩ := pre_more hpw (hne w hw)
          have h1 := (List.isPrefixOf_iff_prefix.1 hb).length_le
          have h2 := h.short w hw
          simp at h1
          omega
      | succ d =>
        rw [taken_split h.q16 p h.alph hne, Nat.pow_succ, Nat.mul_comm]
        exact sumN_le fun a _ => PCode.le h d (p ++ [ltr a]) (by simp; omega)

def Inner (ws : List (List UInt8)) (p : List UInt8) : Prop := ∃ w ∈ ws, p.isPrefixOf w = true ∧ p.length < w.length
theorem PCode.outer {q : Nat} {ws : List (List UInt8)} (h : PCode q ws) {p : List UInt8} (hp : Inner ws p) : p ∉ ws := fun hm => by
  obtain ⟨w, hw, hpw, hl⟩ := hp
  have := h.free w hw p hm hpw
  rw [this] at hl
  omega

theorem inner_init {ws : List (List UInt8)} {p : List UInt8} {b : UInt8} (h : Inner ws (p ++ [b])) : Inner ws p := by
  obtain ⟨w, h1, h2, h3⟩ := h
  exact ⟨w, h1, pre_snoc h2, by simp at h3; omega⟩

theorem PCode.full {q : Nat} {ws : List (List UInt8)} (h : PCode q ws) (hT : taken q [] ws = q ^ 32) : ∀ (n : Nat) (p : List UInt8), p.length = n → Inner ws p → taken q p ws = q ^ (32 - n) ∧ ∀ a, a < q → taken q (p ++ [ltr a]) ws = q ^ (32 - (n + 1))
  | n, p, hn, hi => by
    have hm := h.outer hi
    have hne : ∀ w ∈ ws, w ≠ p := fun w hw e => hm (e ▸ hw)
    have hlen : n + 1 ≤ 32 := by
      obtain ⟨w, h1, h2, h3⟩ := hi
      have := h.short w h1
      omega
    have hfull : taken q p ws = q ^ (32 - n) := by
      cases n with
      | zero =>
        have : p = [] := List.length_eq_zero_iff.1 hn
        subst this
        exact hT
      | succ n =>
        obtain ⟨x, b, rfl⟩ : ∃ x b, p = x ++ [b] := by
          have hp0 : p ≠ [] := fun e => by subst e; simp at hn
          exact ⟨p.dropLast, p.getLast hp0, (List.dropLast_concat_getLast hp0).symm⟩
        have hxl : x.length = n := by simpa using hn
        have ih := PCode.full h hT n x hxl (inner_init hi)
        obtain ⟨w, h1, h2, h3⟩ := hi
        have hbw : b ∈ w := by
          obtain ⟨t, rfl⟩ := pre_iff.1 h2
          simp
        obtain ⟨a, ha, rfl⟩ := h.alph w h1 b hbw
        exact ih.2 a ha
    refine ⟨hfull, ?_⟩
    rw [taken_split h.q16 p h.alph hne, show 32 - n = (32 - (n + 1)) + 1 by omega, Nat.pow_succ, Nat.mul_comm] at hfull
    exact sumN_full (fun a _ => h.le (32 - (n + 1)) (p ++ [ltr a]) (by simp; omega)) hfull

end Go.Proofs.YtpljmccnfmkmfaaGreat.Kn
end

section
namespace Go.Proofs.YtpljmccnfmkmfaaGreat
open Go Go.AM
set_option maxRecDepth 100000
set_option linter.unusedSimpArgs false

theorem ixB_hit (c : UInt8) : ∀ (l : List UInt8) (n : Nat), 0 ≤ ixB c l n → ∃ k : Nat, ixB c l n = ((n + k : Nat) : Int) ∧ l.getD k 0 = c
  | [], n, h => by simp [ixB] at h
  | a :: l, n, h => by
    unfold ixB at h ⊢
    cases hb : Nat.beq a.toNat c.toNat with
    | true =>
      rw [hb] at h
      exact ⟨0, by simp, by simpa using UInt8.toNat_inj.1 (Nat.eq_of_beq_eq_true hb)⟩
    | false =>
      rw [hb] at h
      obtain ⟨k, h1, h2⟩ := ixB_hit c l (n + 1) h
      exact ⟨k + 1, by simp only [h1]; omega, by simpa using h2⟩
theorem alph_of {q : Int} {w : List UInt8} (h : wordCheck q w = 0) : Kn.Alph q.toNat w := fun b hb => by
  have hw : okW q w = true := by
    unfold wordCheck at h
    split at h
    · cases h
    · split at h
      · cases h
      · split at h
        · assumption
        · cases h
  have h1 := List.all_eq_true.1 hw b hb
  unfold okB at h1
  simp only [Bool.and_eq_true, decide_eq_true_eq] at h1
  obtain ⟨k, h3, h4⟩ := ixB_hit b L16 0 h1.1
  exact ⟨k, by omega, h4.symm⟩
theorem free_of {ws : List (List UInt8)} (hn : ws.Nodup) (hp : prefB ws = true) : ∀ x ∈ ws, ∀ y ∈ ws, y.isPrefixOf x = true → x = y := fun x hx y hy h => (alone_iff (pr := fun w x => x.isPrefixOf w) hn).1 hp x hx y hy h
theorem pcode_of {q : Int} {ws : List (List UInt8)} (hv : Valid q ws) (hp : prefB ws = true) : Kn.PCode q.toNat ws := by
  have h2 := hv.q2
  have h16 := hv.q16
  exact { q0 := by omega, q16 := by omega, nodup := strict_nodup hv.strict, free := free_of (strict_nodup hv.strict) hp, alph := fun w hw => alph_of (hv.words w hw).2.2, short := fun w hw => (hv.words w hw).2.1 }

end Go.Proofs.YtpljmccnfmkmfaaGreat
end

section
namespace Go.Proofs.YtpljmccnfmkmfaaGreat
open Go Go.AM
set_option maxRecDepth 100000
set_option linter.unusedSimpArgs false

def Miss (q : Nat) (ws : List (List UInt8)) (m : List UInt8) : Prop := ∃ p a, Kn.Inner ws p ∧ a < q ∧ m = p ++ [Kn.ltr a] ∧ begB ws m = false
theorem mem_missing {q : Nat} {ws : List (List UInt8)} {m : List UInt8} : m ∈ missing q ws ↔ Miss q ws m := by
  unfold missing Miss
  rw [mem_made]
  unfold missL missW missP missA
  simp only [List.mem_flatMap, List.mem_range]
  constructor
  · rintro ⟨i, hi, n, hn, a, ha, hm⟩
    split at hm
    · cases hm
    · rename_i hb
      have hm := List.mem_singleton.1 hm
      rw [List.getD_eq_getElem?_getD, List.getElem?_eq_getElem hi, Option.getD_some] at hn hm
      refine ⟨ws[i].take n, a, ⟨ws[i], List.getElem_mem hi, List.isPrefixOf_iff_prefix.2 (List.take_prefix _ _), by rw [List.length_take]; omega⟩, ha, hm, ?_⟩
      rw [List.getD_eq_getElem?_getD, List.getElem?_eq_getElem hi, Option.getD_some] at hb
      rw [hm]; exact eq_false_of_ne_true hb
  · rintro ⟨p, a, ⟨w, hw, hpw, hl⟩, ha, rfl, hb⟩
    obtain ⟨i, hi, rfl⟩ := List.getElem_of_mem hw
    have htk : ws[i].take p.length = p := (List.prefix_iff_eq_take.1 (List.isPrefixOf_iff_prefix.1 hpw)).symm
    refine ⟨i, hi, p.length, ?_, a, ha, ?_⟩
    · rw [List.getD_eq_getElem?_getD, List.getElem?_eq_getElem hi, Option.getD_some]; exact hl
    · rw [List.getD_eq_getElem?_getD, List.getElem?_eq_getElem hi, Option.getD_some, htk, if_neg]
      · exact List.mem_singleton.2 rfl
      · have e : p ++ [letA a] = p ++ [Kn.ltr a] := rfl
        rw [e, hb]; decide
def extL (q : Nat) : List UInt8 → Nat → List (List UInt8)
  | w, 0 => [w]
  | w, k + 1 => (List.range q).flatMap fun a => extL q (w ++ [letA a]) k
def embL (q : Nat) (ws : List (List UInt8)) (n : Nat) : List (List UInt8) := (missing q ws).flatMap fun w => extL q w (n - w.length)
section
variable {q : Nat} {ws : List (List UInt8)} (hc : Kn.PCode q ws)
include hc
theorem miss_short {m : List UInt8} (hm : Miss q ws m) : m.length ≤ 32 ∧ m ≠ [] ∧ Kn.Alph q m := by
  obtain ⟨p, a, ⟨w, hw, hpw, hl⟩, ha, rfl, hb⟩ := hm
  have h1 := hc.short w hw
  refine ⟨by simp; omega, by simp, fun b hb => ?_⟩
  rcases List.mem_append.1 hb with h2 | h2
  · exact hc.alph w hw b ((List.isPrefixOf_iff_prefix.1 hpw).subset h2)
  · exact ⟨a, ha, List.mem_singleton.1 h2⟩

end

end Go.Proofs.YtpljmccnfmkmfaaGreat
end

section
namespace Go.Proofs.YtpljmccnfmkmfaaGreat
open Go Go.AM
set_option maxRecDepth 100000
set_option maxHeartbeats 4000000
set_option linter.unusedSimpArgs false

theorem c69 {h : List AObj} (q n : Int) (w : List UInt8) :
    AC Tryz.prog 69 [.p (.int .i64 q), .p (.str w), .p (.int .i64 n)] h [] (fun v h' => v = .fn 135 [.ptr (h.length + 2) 0, .ptr h.length 0, .ptr (h.length + 1) 0] ∧ h' = h ++ [.box [.p (.int .i64 q)], .box [.p (.str w)], .box [.p (.int .i64 n)]]) := by
  refine AC.of_bodyE hΓ Tryz.func69 (by kernel_rfl) rfl (AWp.mono (Q := fun e st => AM.Ends e ∧ st.tmps.getD 6 .junk = .fn 135 [.ptr (h.length + 2) 0, .ptr h.length 0, .ptr (h.length + 1) 0] ∧ st.h = h ++ [.box [.p (.int .i64 q)], .box [.p (.str w)], .box [.p (.int .i64 n)]]) ?_ ?_)
  rotate_left
  · rintro e ⟨tm, h'⟩ ⟨he, h1, h2⟩
    simp only at h1 h2
    subst h2
    refine ⟨he, _, Less.refl _, ?_⟩
    unfold DoneE
    simp +contextual -implicitDefEqProofs only [Tryz.results69, h1, go_sem]
    exact ⟨_, by simp, .inl rfl, List.take_length⟩
  refine AWp.of_awpD [] hΓ hmix (by kernel_rfl) ?_
  simp -implicitDefEqProofs only [Tryz.ntmps69, Nat.reduceAdd, Nat.reduceSub, go_sem]
  try simp

def emG (q : Nat) (ws xs : List (List UInt8)) (w : List UInt8) (n : Nat) (r2 : Int) (rec : AObj) : List AObj :=
  [.box [.p (.int .i64 q), .p (.sl (ws.map .str))], .box [.p (.int .i64 0), .full []], .box [.p (.int .i64 r2)], .row 9 1 ((ws ++ xs).map .str) (rkOf xs), .box [.own 3 (ws ++ xs).length], .box [.p (.int .i64 q)], .box [.p (.str w)], .box [.p (.int .i64 n)], rec]
def emK (q : Nat) (ws xs : List (List UInt8)) (w : List UInt8) (n : Nat) (r2 : Int) (rec : AObj) : List AObj :=
  [.box [.p (.int .i64 q), .p (.sl (ws.map .str))], .box [.p (.int .i64 0), .full []], .box [.p (.int .i64 r2)], .row 9 1 ((ws ++ xs).map .str) (rkOf xs), .box [.own 3 (ws ++ xs).length], .box [.p (.int .i64 q)], .box [.p (.str w)], .box [.p (.int .i64 n)], rec,
    .box [.yld 8], .box [.fn 136 [.ptr 7 0, .ptr 9 0, .ptr 5 0, .ptr 10 0]]]
theorem emK_len (q : Nat) (ws xs : List (List UInt8)) (w : List UInt8) (n : Nat) (r2 : Int) (rec : AObj) : (emK q ws xs w n r2 rec).length = 11 := rfl

def extA (q : Nat) (y : List UInt8) (k a : Nat) : List (List UInt8) := (List.range a).flatMap fun a => extL q (y ++ [letA a]) k
theorem extA_succ (q : Nat) (y : List UInt8) (k a : Nat) : extA q y k (a + 1) = extA q y k a ++ extL q (y ++ [letA a]) k := by unfold extA; rw [List.range_succ, List.flatMap_append]; simp
theorem extA_le (q : Nat) (y : List UInt8) (k : Nat) {a : Nat} : ∀ {b : Nat}, a ≤ b → (extA q y k a).length ≤ (extA q y k b).length
  | 0, h => by have : a = 0 := by omega
               subst this; exact Nat.le_refl _
  | b + 1, h => by
    by_cases he : a = b + 1
    · subst he; exact Nat.le_refl _
    · have := extA_le q y k (show a ≤ b by omega)
      rw [extA_succ, List.length_append]; omega

theorem c114 {q : Nat} {ws : List (List UInt8)} {w : List UInt8} {n N : Nat} {rec recS : AObj} (hq : q ≤ 16) (hn : n ≤ 32)
    (hround : ∀ xs x, xs.length < N → YC Tryz.prog 8 [.p (.str x)] (emK q ws xs w n 0 rec) [3] (fun v h' => v = .p (.bool true) ∧ h' = emK q ws (xs ++ [x]) w n 0 rec))
    (hstop : ∀ xs x, xs.length = N → YC Tryz.prog 8 [.p (.str x)] (emK q ws xs w n 0 rec) [3] (fun v h' => v = .p (.bool false) ∧ h' = emK q ws xs w n 4 recS)) :
    ∀ (k : Nat) (y : List UInt8) (xs : List (List UInt8)), y.length + k = n → xs.length ≤ N →
      AC Tryz.prog 136 [.p (.str y), .ptr 7 0, .ptr 9 0, .ptr 5 0, .ptr 10 0] (emK q ws xs w n 0 rec) [3]
        (fun v h' => (xs.length + (extL q y k).length ≤ N ∧ v = .p (.bool true) ∧ h' = emK q ws (xs ++ extL q y k) w n 0 rec) ∨
          (N < xs.length + (extL q y k).length ∧ v = .p (.bool false) ∧ ∃ zs, h' = emK q ws zs w n 4 recS)) := by
  intro k
  induction k with
  | zero =>
    intro y xs hy hxs
    refine AC.of_bodyE hΓ Tryz.func136 (by kernel_rfl) rfl (AWp.mono (Q := fun e st => AM.Ends e ∧ ((xs.length + (extL q y 0).length ≤ N ∧ st.tmps.getD 6 .junk = .p (.bool true) ∧ st.h = emK q ws (xs ++ extL q y 0) w n 0 rec) ∨
          (N < xs.length + (extL q y 0).length ∧ st.tmps.getD 6 .junk = .p (.bool false) ∧ ∃ zs, st.h = emK q ws zs w n 4 recS))) ?_ ?_)
    rotate_left
    · rintro e ⟨tm, h'⟩ ⟨he, h1⟩
      refine ⟨he, _, Less.refl _, ?_⟩
      unfold DoneE
      rcases h1 with ⟨h1, h2, h3⟩ | ⟨h1, h2, zs, h3⟩
      · simp only at h2 h3
        subst h3
        simp +contextual -implicitDefEqProofs only [Tryz.results136, h2, go_sem]
        exact ⟨_, by rw [emK_len, emK_len]; exact Nat.le_refl _, .inl rfl, .inl ⟨h1, List.take_length⟩⟩
      · simp only at h2 h3
        subst h3
        simp +contextual -implicitDefEqProofs only [Tryz.results136, h2, go_sem]
        exact ⟨_, by rw [emK_len, emK_len]; exact Nat.le_refl _, .inl rfl, .inr ⟨h1, zs, List.take_length⟩⟩
    have hyn : y.length = n := by omega
    have hx0 : extL q y 0 = [y] := rfl
    rw [hx0]
    have hr := hround xs y
    have hs := hstop xs y
    unfold emK at hr hs ⊢
    refine AWp.of_awpD [(6, 7)] hΓ hmix (by kernel_rfl) ?_
    have hyn' : (y.length : Int) = (n : Int) := by omega
    simp -implicitDefEqProofs only [Tryz.ntmps136, Nat.reduceAdd, Nat.reduceSub, hyn', go_sem]
    by_cases hN : xs.length < N
    · refine callK_yc (hr hN) (fun k hk => .inr hk) ?_
      rintro v h' ⟨rfl, rfl⟩
      simp -implicitDefEqProofs only [killAll, List.foldl, AV.kill, AV.kill.killL, go_sem]
      exact .inl (by omega)
    · refine callK_yc (hs (by omega)) (fun k hk => .inr hk) ?_
      rintro v h' ⟨rfl, rfl⟩
      simp -implicitDefEqProofs only [killAll, List.foldl, AV.kill, AV.kill.killL, go_sem]
      exact .inr ⟨by omega, xs, ⟨rfl, rfl⟩, rfl⟩
  | succ k ih =>
    intro y xs hy hxs
    refine AC.of_bodyE hΓ Tryz.func136 (by kernel_rfl) rfl (AWp.mono (Q := fun e st => AM.Ends e ∧ ((xs.length + (extL q y (k + 1)).length ≤ N ∧ st.tmps.getD 6 .junk = .p (.bool true) ∧ st.h = emK q ws (xs ++ extL q y (k + 1)) w n 0 rec) ∨
          (N < xs.length + (extL q y (k + 1)).length ∧ st.tmps.getD 6 .junk = .p (.bool false) ∧ ∃ zs, st.h = emK q ws zs w n 4 recS))) ?_ ?_)
    rotate_left
    · rintro e ⟨tm, h'⟩ ⟨he, h1⟩
      refine ⟨he, _, Less.refl _, ?_⟩
      unfold DoneE
      rcases h1 with ⟨h1, h2, h3⟩ | ⟨h1, h2, zs, h3⟩
      · simp only at h2 h3
        subst h3
        simp +contextual -implicitDefEqProofs only [Tryz.results136, h2, go_sem]
        exact ⟨_, by rw [emK_len, emK_len]; exact Nat.le_refl _, .inl rfl, .inl ⟨h1, List.take_length⟩⟩
      · simp only at h2 h3
        subst h3
        simp +contextual -implicitDefEqProofs only [Tryz.results136, h2, go_sem]
        exact ⟨_, by rw [emK_len, emK_len]; exact Nat.le_refl _, .inl rfl, .inr ⟨h1, zs, List.take_length⟩⟩
    have hE : extL q y (k + 1) = extA q y k q := rfl
    rw [hE]
    refine AWp.of_awpD [(6, 7)] hΓ hmix (by kernel_rfl) ?_
    have hyn' : ¬ (y.length : Int) = (n : Int) := by omega
    unfold emK
    simp -implicitDefEqProofs only [Tryz.ntmps136, Nat.reduceAdd, Nat.reduceSub, hyn', go_sem]
    refine AWp.loopI (fun a : Nat => ⟨mkF 29 [(0, .p (.str y)), (1, .ptr 7 0), (2, .ptr 9 0), (3, .ptr 5 0), (4, .ptr 10 0), (6, .p (.bool false)), (15, .p (.int .i64 q)), (16, .p (.int .i64 a))], emK q ws (xs ++ extA q y k a) w n 0 rec⟩)
      (fun a => a ≤ q ∧ xs.length + (extA q y k a).length ≤ N) (fun a => q - a) 0 (by simp [go_sem, weakH_self, extA, emK]) ⟨by omega, by simpa [extA] using hxs⟩ ?_
    rintro a ⟨ha, haN⟩
    refine AWp.of_awpD [(6, 7)] hΓ hmix (by kernel_rfl) ?_
    by_cases hlta : a < q
    · have hlta' : (a : Int) < (q : Int) := by omega
      have h1 : ((a : Int) + 1).toNat - a = 1 := by omega
      have h16 : a < 16 := by omega
      have hc := ih (y ++ [letA a]) (xs ++ extA q y k a) (by simp; omega) (by rw [List.length_append]; exact haN)
      have hsuc := extA_succ q y k a
      have hle := extA_le q y k (show a + 1 ≤ q by omega)
      unfold emK at hc ⊢
      simp -implicitDefEqProofs only [hlta', Int.toNat_natCast, h1, sub_letters h16, go_sem]
      refine ⟨by simp only [InR]; omega, ⟨by omega, by omega⟩, by omega, callK_ac hc (by simp) ?_⟩
      rw [List.length_append] at *
      rintro v h' (⟨g1, rfl, rfl⟩ | ⟨g1, rfl, zs, rfl⟩)
      · simp -implicitDefEqProofs only [killAll, List.foldl, AV.kill, AV.kill.killL, go_sem]
        refine ⟨by simp only [InR]; omega, a + 1, ?_, ⟨by omega, ?_⟩, by omega⟩
        · rw [hsuc]; simp [weakH_self, emK]
        · rw [hsuc, List.length_append]; omega
      · simp -implicitDefEqProofs only [killAll, List.foldl, AV.kill, AV.kill.killL, go_sem]
        rw [hsuc, List.length_append] at hle
        exact .inr ⟨by omega, zs, ⟨rfl, rfl⟩, rfl⟩
    · have haq : a = q := by omega
      subst haq
      simp -implicitDefEqProofs only [Int.lt_irrefl, Nat.lt_irrefl, go_sem]
      exact .inl ⟨haN, rfl⟩
end Go.Proofs.YtpljmccnfmkmfaaGreat
end

section
namespace Go.Proofs.YtpljmccnfmkmfaaGreat
open Go Go.AM Go.RowKit
set_option maxRecDepth 100000
set_option linter.unusedSimpArgs false

theorem c61z {h : List AObj} : AC Tryz.prog 133 [.full [], .p (.int .i64 (0 : Nat))] h [] (fun v h' => v = .full [] ∧ h' = h) := by
  refine ⟨entersF_of Tryz.func133 (by kernel_rfl) rfl, fun X I μ ob w cargs R hlen hargs _ => ?_⟩
  obtain ⟨a0, b0, rfl⟩ : ∃ a b, cargs = [a, b] := by
    match cargs, hlen with
    | [a, b], _ => exact ⟨a, b, rfl⟩
  have g0 := hargs 0 (by simp)
  have g1 := hargs 1 (by simp)
  simp only [List.getD_cons_zero, List.getD_cons_succ] at g0 g1
  obtain ⟨a, rfl, hp⟩ : ∃ a, a0 = .slice a 0 0 ∧ PR I w (.sl []) (.slice a 0 0) := by
    cases g0 with
    | full l a hp => exact ⟨a, rfl, hp⟩
  rw [g1.int_inv]
  have hc := Any8.slices_Grow_room (ρ := Tryz.growS_ren) Tryz.growS a 0 0 0 w (by omega) (by omega) (by omega) (by omega)
  refine Calls.mono (P := Tryz.prog) hc ?_
  rintro e w' ⟨rfl, rfl⟩
  exact ⟨_, .full [], h, I, μ, ob, rfl, R, .full [] a hp, fun _ h => h, fun _ _ _ => rfl, Nat.le_refl _, fun g hg => .inl hg, fun b g hb => .inl ⟨b, hb⟩, fun _ _ _ => rfl, rfl, rfl⟩

theorem c29z {h : List AObj} (hK : h.map (AObj.kill h.length) = h) : AC Tryz.prog 66 [.p (.sl (wssV [[], []]))] h [] (fun v h' => v = .own h.length 0 ∧ h' = h ++ [.row 9 1 [] .lax]) := by
  refine AC.of_bodyE hΓ Tryz.func66 (by kernel_rfl) rfl (AWp.mono (Q := fun e st => AM.Ends e ∧ st.tmps.getD 2 .junk = .own h.length 0 ∧ st.h = h ++ [.row 9 1 [] .lax]) ?_ ?_)
  rotate_left
  · rintro e ⟨tm, h'⟩ ⟨he, h1, h2⟩
    simp only at h1 h2
    subst h2
    refine ⟨he, _, Less.refl _, ?_⟩
    unfold DoneE
    simp +contextual -implicitDefEqProofs only [Tryz.results66, h1, go_sem]
    exact ⟨h.length + 1, by omega, .inl (by simp), List.take_of_length_le (by simp)⟩
  have hw : wssV [[], []] = [.sl [], .sl []] := rfl
  rw [hw]
  refine AWp.of_awpD [] hΓ hmix (by kernel_rfl) ?_
  simp -implicitDefEqProofs only [Tryz.ntmps66, Nat.reduceAdd, Nat.reduceSub, go_sem]
  refine AWp.loopI (fun k : Nat => ⟨mkF 36 [(0, .p (.sl [.sl [], .sl []])), (2, .full []), (3, .p (.int .i64 (0 : Nat))), (9, .p (.sl [.sl [], .sl []])), (10, .p (.int .i64 2)), (11, .p (.int .i64 k))], h⟩)
    (fun k => k ≤ 2) (fun k => 2 - k) 0 (by simp [go_sem, weakH_self]) (by omega) ?_
  intro k hk
  refine AWp.of_awpD [] hΓ hmix (by kernel_rfl) ?_
  by_cases hlt : k < 2
  · have hlt' : (k : Int) < 2 := by omega
    have hg : ([PV.sl [], PV.sl []] : List PV).getD k default = .sl [] := by
      match k, hlt with
      | 0, _ => rfl
      | 1, _ => rfl
    have h6 : ¬ ((0 : Nat) : Int) + ((0 : Nat) : Int) < 0 := by omega
    simp -implicitDefEqProofs only [hlt', hg, Int.toNat_natCast, h6, ↓reduceIte, go_sem]
    exact ⟨by omega, by simp only [InR]; omega, by simp only [InR]; omega, k + 1, ⟨⟨by omega, by omega⟩, weakH_self _⟩, hlt, by omega⟩
  · have hlt' : ¬ (k : Int) < 2 := by omega
    simp -implicitDefEqProofs only [hlt', go_sem]
    refine callK_ac c61z (by simp) ?_
    rintro v h' ⟨rfl, rfl⟩
    have gL : ∀ o : AObj, (h' ++ [o])[h'.length]? = some o := fun o => by simp
    have sL : ∀ o o' : AObj, (h' ++ [o]).set h'.length o' = h' ++ [o'] := fun o o' => by simp
    simp -implicitDefEqProofs only [killAll, List.foldl, go_sem]
    refine AWp.adopt (l := []) 6 9 1 (by rfl) (by simp) ?_
    simp -implicitDefEqProofs only [go_sem]
    refine AWp.loopI (fun j : Nat => ⟨mkF 36 [(0, .p (.sl [.sl [], .sl []])), (6, .own h'.length 0), (25, .p (.sl [.sl [], .sl []])), (26, .p (.int .i64 2)), (27, .p (.int .i64 j))], h' ++ [.row 9 1 [] .lax]⟩)
      (fun j => j ≤ 2) (fun j => 2 - j) 0 (by simp [go_sem, weakH_self]) (by omega) ?_
    intro j hj
    refine AWp.of_awpD [] hΓ hmix (by kernel_rfl) ?_
    by_cases hlt2 : j < 2
    · have hlt2' : (j : Int) < 2 := by omega
      have hg : ([PV.sl [], PV.sl []] : List PV).getD j default = .sl [] := by
        match j, hlt2 with
        | 0, _ => rfl
        | 1, _ => rfl
      simp -implicitDefEqProofs only [hlt2', hg, Int.toNat_natCast, gL, sL, hK, List.append_nil, go_sem]
      refine ⟨by omega, ⟨by simp [sizeOK], by simp [oneOK]⟩, ⟨by omega, by omega⟩, by simp only [InR]; omega, j + 1, ⟨by omega, ?_⟩, by omega, by omega⟩
      simp only [List.map_append, hK, List.map_cons, List.map_nil, sL, List.isEmpty_nil, ↓reduceIte]
      exact weakH_self _
    · have hlt2' : ¬ (j : Int) < 2 := by omega
      simp -implicitDefEqProofs only [hlt2', go_sem]

theorem c29b {h : List AObj} (hK : h.map (AObj.kill h.length) = h) (A B : List (List UInt8)) (hn : (A ++ B).length ≤ 1000000) :
    AC Tryz.prog 66 [.p (.sl (wssV [A, B]))] h [] (fun v h' => ∃ rk, rk ≠ .raw ∧ v = .own h.length (A ++ B).length ∧ h' = h ++ [.row 9 1 ((A ++ B).map .str) rk]) := by
  have hf : [A, B].flatten = A ++ B := by simp
  by_cases h0 : 0 < (A ++ B).length
  · have hc := c29 hK [A, B] (by rw [hf]; exact h0) (by rw [hf]; exact hn) (by simp)
    rw [hf] at hc
    exact hc.monoR fun v h' ⟨h1, h2⟩ => ⟨.own, by simp, h1, h2⟩
  · have hA : A = [] := List.length_eq_zero_iff.1 (by rw [List.length_append] at h0; omega)
    have hB : B = [] := List.length_eq_zero_iff.1 (by rw [List.length_append] at h0; omega)
    subst hA hB
    exact (c29z hK).monoR fun v h' ⟨h1, h2⟩ => ⟨.lax, by simp, h1, h2⟩

theorem cm60 (a : List Int) (x : Int) (hl : a.length ≤ 9223372036854775807) : PFn Tryz.prog 181 [.sl (a.map Kn.iV), .int .i64 x] [.int .i64 (if x ∈ a then (a.idxOf x : Int) else -1)] := by
  refine PFn.of_body hΓ Tryz.func181 (by kernel_rfl) rfl (AWp.of_awpD [] hΓ hmix (by kernel_rfl) ?_)
  simp -implicitDefEqProofs only [Tryz.ntmps181, Tryz.results181, Nat.reduceAdd, Nat.reduceSub, go_sem]
  refine AWp.loopI (fun k : Nat => ⟨mkF 19 [(0, .p (.sl (a.map Kn.iV))), (1, .p (.int .i64 x)), (7, .p (.int .i64 a.length)), (8, .p (.int .i64 k))], []⟩)
    (fun k => k ≤ a.length ∧ x ∉ a.take k) (fun k => a.length - k) 0 (by simp [go_sem, weakH_self]) (by simp) ?_
  rintro k ⟨hk, h0⟩
  refine AWp.of_awpD [] hΓ hmix (by kernel_rfl) ?_
  by_cases hlt : k < a.length
  · have hlt' : (k : Int) < (a.length : Int) := by omega
    have hg : (a.map Kn.iV).getD k default = .int .i64 a[k] := by rw [getD_map_lt _ _ _ _ hlt]; rfl
    have htk : a.take (k + 1) = a.take k ++ [a[k]] := by rw [List.take_succ_eq_append_getElem hlt]
    by_cases he : x = a[k]
    · simp -implicitDefEqProofs only [hlt', hg, Int.toNat_natCast, he, List.length_map, go_sem]
      have hx : x ∈ a := he ▸ List.getElem_mem hlt
      have hi : a.idxOf x = k := by
        conv => lhs; rw [← List.take_append_drop k a, List.idxOf_append, if_neg h0]
        rw [List.drop_eq_getElem_cons hlt, he, List.idxOf_cons_self, List.length_take]
        omega
      rw [← he, if_pos hx, hi]
    · simp -implicitDefEqProofs only [hlt', hg, Int.toNat_natCast, he, List.length_map, go_sem]
      have h2 : x ∉ a.take (k + 1) := by
        rw [htk]; simp only [List.mem_append, List.mem_singleton]
        exact fun h => h.elim h0 he
      exact ⟨by simp only [InR]; omega, k + 1, by simp [weakH_self], ⟨hlt, h2⟩, by omega⟩
  · have hlt' : ¬ (k : Int) < (a.length : Int) := by omega
    simp -implicitDefEqProofs only [hlt', List.length_map, go_sem]
    rw [List.take_of_length_le (by omega)] at h0
    rw [if_neg h0]
def outR (ws : List (List UInt8)) (k : Int) : Bool := decide (k < 0) || decide ((ws.length : Int) ≤ k)
end Go.Proofs.YtpljmccnfmkmfaaGreat
end

section
namespace Go.Proofs.YtpljmccnfmkmfaaGreat
open Go Go.AM
set_option maxRecDepth 100000
set_option maxHeartbeats 4000000
set_option linter.unusedSimpArgs false

theorem c66p (A B : List (List UInt8)) (hn : (A ++ B).length ≤ 1000000) : PFn Tryz.prog 66 [.sl [.sl (A.map .str), .sl (B.map .str)]] [.sl ((A ++ B).map .str)] := by
  refine .of_row (E := 9) (s := 1) ((c29b (h := []) rfl A B hn).monoR ?_)
  rintro v h' ⟨rk, hrk, rfl, rfl⟩
  exact ⟨0, rk, by rw [List.length_map]; rfl, rfl, hrk⟩

def makeV (q : Int) (l : List (List UInt8)) : PV := if codeCheck q (made l) = 0 then codeV q (made l) else codeV 0 []
theorem makeV_code (q : Int) (l : List (List UInt8)) : ∃ p us, makeV q l = codeV p us ∧ us.length ≤ l.length := by
  unfold makeV
  split
  · exact ⟨_, _, rfl, made_le l⟩
  · exact ⟨0, [], rfl, by simp⟩

def compE (q : Int) (ws : List (List UInt8)) : Int := if chE q ws ≠ 0 then chE q ws else codeCheck q (made (ws ++ missV q ws))
def compV (q : Int) (ws : List (List UInt8)) : PV := if chE q ws ≠ 0 then codeV 0 [] else makeV q (ws ++ missV q ws)

theorem missV_len {q : Int} {ws : List (List UInt8)} (hv : Valid q ws) : (missV q ws).length ≤ 32768 := by
  unfold missV
  split
  · have h1 := made_le (missL q.toNat ws ws.length)
    have h2 := missL_len (q := q.toNat) (ws := ws) (by have := hv.q16; omega) (fun x hx => (hv.words x hx).2.1) ws.length (Nat.le_refl _)
    have h3 := hv.len
    unfold missing
    omega
  · simp

theorem cm20 (q : Int) (ws : List (List UInt8)) : PFn Tryz.prog 16 [codeV q ws] [compV q ws, .int .i64 (compE q ws)] := by
  have e61 := cm61 q ws
  unfold compV compE
  refine PFn.of_body hΓ Tryz.func16 (by kernel_rfl) rfl (AWp.of_awpD [(4, 11)] hΓ hmix (by kernel_rfl) ?_)
  simp -implicitDefEqProofs only [Tryz.ntmps16, Tryz.results16, Nat.reduceAdd, Nat.reduceSub, codeV, go_sem]
  unfold codeV at e61
  refine callK_fn e61 (.still rfl) ?_
  by_cases hc : chE q ws = 0
  · obtain ⟨hv, _⟩ := chE_valid hc
    have hl := missV_len hv
    have hlen := hv.len
    have hq : ((q.toNat : Nat) : Int) = q := by have := hv.q2; omega
    have e62 := cm62 q.toNat ws (by rw [hq]; exact hv)
    rw [hq, show missing q.toNat ws = missV q ws by unfold missV; rw [if_pos hc]] at e62
    have e66 := c66p ws (missV q ws) (by rw [List.length_append]; omega)
    have e71 := t71 q (ws ++ missV q ws) (by rw [List.length_append]; omega)
    rw [← makeV] at e71
    obtain ⟨p, us, hpu, _⟩ := makeV_code q (ws ++ missV q ws)
    rw [hpu] at e71
    unfold codeV at e62 e71
    rw [hc, if_neg (by simp), if_neg (by simp), hpu]
    simp -implicitDefEqProofs only [go_sem]
    refine callVPK_fn e62 (.still rfl) ?_
    simp -implicitDefEqProofs only [go_sem]
    refine ⟨⟨by simp [sizeOK, PV.cells], by omega⟩, callVPK_fn e66 (.still rfl) ?_⟩
    simp -implicitDefEqProofs only [go_sem]
    refine callVPK_fn e71 (.still rfl) ?_
    simp -implicitDefEqProofs only [codeV, go_sem]
  · rw [if_pos hc, if_pos hc]
    simp -implicitDefEqProofs only [hc, codeV, List.map_nil, go_sem]

end Go.Proofs.YtpljmccnfmkmfaaGreat
end

section
namespace Go.Proofs.YtpljmccnfmkmfaaGreat
open Go Go.AM
set_option maxRecDepth 100000
set_option maxHeartbeats 4000000
set_option linter.unusedSimpArgs false

theorem c113 {q : Nat} {ws xs : List (List UInt8)} {w : List UInt8} {n N : Nat} {tm : List AV} {ps : List Nat} {cs bd : Code} (hq : q ≤ 16) (hn : n ≤ 32) (hw : w.length ≤ n) (hxs : xs.length ≤ N) (ht : tm.all (AV.under 9) = true)
    (hround : ∀ xs x, xs.length < N → YC Tryz.prog 8 [.p (.str x)] (emK q ws xs w n 0 (.lp tm ps cs bd .ready)) [3] (fun v h' => v = .p (.bool true) ∧ h' = emK q ws (xs ++ [x]) w n 0 (.lp tm ps cs bd .ready)))
    (hstop : ∀ xs x, xs.length = N → YC Tryz.prog 8 [.p (.str x)] (emK q ws xs w n 0 (.lp tm ps cs bd .ready)) [3] (fun v h' => v = .p (.bool false) ∧ h' = emK q ws xs w n 4 (.lp tm ps cs bd (.left .ret)))) :
    AC Tryz.prog 135 [.yld 8, .ptr 7 0, .ptr 5 0, .ptr 6 0] (emG q ws xs w n 0 (.lp tm ps cs bd .ready)) [3]
      (fun _ h' => (xs.length + (extL q w (n - w.length)).length ≤ N ∧ h' = emG q ws (xs ++ extL q w (n - w.length)) w n 0 (.lp tm ps cs bd .ready)) ∨
        (N < xs.length + (extL q w (n - w.length)).length ∧ ∃ zs, h' = emG q ws zs w n 4 (.lp tm ps cs bd (.left .ret)))) := by
  refine AC.of_bodyE hΓ Tryz.func135 (by kernel_rfl) rfl (AWp.mono (Q := fun e st => AM.Ends e ∧ ((xs.length + (extL q w (n - w.length)).length ≤ N ∧ st.h = emK q ws (xs ++ extL q w (n - w.length)) w n 0 (.lp tm ps cs bd .ready)) ∨
        (N < xs.length + (extL q w (n - w.length)).length ∧ ∃ zs, st.h = emK q ws zs w n 4 (.lp tm ps cs bd (.left .ret))))) ?_ ?_)
  rotate_left
  · rintro e ⟨tm', h'⟩ ⟨he, h1⟩
    refine ⟨he, _, Less.refl _, ?_⟩
    unfold DoneE
    rcases h1 with ⟨h1, h3⟩ | ⟨h1, zs, h3⟩
    · simp only at h3
      subst h3
      simp +contextual -implicitDefEqProofs only [Tryz.results135, go_sem]
      refine ⟨9, by simp [emG], .inr ⟨rfl, ?_, by simp [emK]⟩, .inl ⟨h1, rfl⟩⟩
      simp [emK, AObj.under, AV.under, ht]
    · simp only at h3
      subst h3
      simp +contextual -implicitDefEqProofs only [Tryz.results135, go_sem]
      refine ⟨9, by simp [emG], .inr ⟨rfl, ?_, by simp [emK]⟩, .inr ⟨h1, zs, rfl⟩⟩
      simp [emK, AObj.under, AV.under, ht]
  have hc := c114 (w := w) hq hn hround hstop (n - w.length) w xs (by omega) hxs
  unfold emG
  unfold emK at hc
  refine AWp.of_awpD [] hΓ hmix (by kernel_rfl) ?_
  simp -implicitDefEqProofs only [Tryz.ntmps135, Nat.reduceAdd, Nat.reduceSub, List.set_cons_zero, List.set_cons_succ, go_sem]
  refine callK_ac hc (by simp) ?_
  rintro v h' (⟨h1, rfl, rfl⟩ | ⟨h1, rfl, zs, rfl⟩)
  · simp -implicitDefEqProofs only [killAll, List.foldl, AV.kill, AV.kill.killL, go_sem]
    exact .inl ⟨h1, rfl⟩
  · simp -implicitDefEqProofs only [killAll, List.foldl, AV.kill, AV.kill.killL, go_sem]
    exact .inr ⟨h1, zs, rfl⟩

def embT (q : Nat) (M : List (List UInt8)) (n i : Nat) : List (List UInt8) := (M.take i).flatMap fun w => extL q w (n - w.length)
theorem embT_succ {q : Nat} {M : List (List UInt8)} {n i : Nat} (hi : i < M.length) : embT q M n (i + 1) = embT q M n i ++ extL q M[i] (n - M[i].length) := by
  unfold embT; rw [List.take_succ_eq_append_getElem hi, List.flatMap_append]; simp
theorem embT_le {q : Nat} {M : List (List UInt8)} {n i : Nat} : ∀ {j : Nat}, i ≤ j → j ≤ M.length → (embT q M n i).length ≤ (embT q M n j).length
  | 0, h, _ => by have : i = 0 := by omega
                  subst this; exact Nat.le_refl _
  | j + 1, h, hj => by
    by_cases he : i = j + 1
    · subst he; exact Nat.le_refl _
    · have := embT_le (q := q) (M := M) (n := n) (show i ≤ j by omega) (by omega)
      rw [embT_succ hj, List.length_append]; omega

def embE (q : Int) (ws : List (List UInt8)) (n : Int) : Int :=
  if chE q ws ≠ 0 then chE q ws else if n < 1 ∨ 32 < n then 2 else if 64 < ws.length + (embL q.toNat ws n.toNat).length then 4 else codeCheck q (made (ws ++ embL q.toNat ws n.toNat))
def embV (q : Int) (ws : List (List UInt8)) (n : Int) : PV :=
  if chE q ws ≠ 0 then codeV 0 [] else if n < 1 ∨ 32 < n then codeV 0 [] else if 64 < ws.length + (embL q.toNat ws n.toNat).length then codeV 0 [] else makeV q (ws ++ embL q.toNat ws n.toNat)

theorem cm22 (q : Int) (ws : List (List UInt8)) (n : Int) : PFn Tryz.prog 18 [codeV q ws, .int .i64 n] [embV q ws n, .int .i64 (embE q ws n)] := by
  have e61 := cm61 q ws
  unfold codeV at e61
  refine PFn.of_body hΓ Tryz.func18 (by kernel_rfl) rfl (AWp.seq (AWp.of_awpD [] hΓ hmix (by kernel_rfl) ?_))
  simp -implicitDefEqProofs only [Tryz.ntmps18, Tryz.results18, Nat.reduceAdd, Nat.reduceSub, codeV, go_sem]
  refine AWp.seq ?_
  refine AWp.of_awpD [] hΓ hmix (by kernel_rfl) ?_
  simp -implicitDefEqProofs only [go_sem]
  refine callK_fn e61 (.still rfl) ?_
  unfold embV embE
  by_cases hc : chE q ws = 0
  rotate_left
  · rw [if_pos hc, if_pos hc]
    simp -implicitDefEqProofs only [hc, codeV, List.map_nil, go_sem]
  rw [hc, if_neg (c := (0 : Int) ≠ 0) (by simp), if_neg (c := (0 : Int) ≠ 0) (by simp)]
  simp -implicitDefEqProofs only [go_sem]
  refine AWp.seq (AWp.of_awpD [] hΓ hmix (by kernel_rfl) ?_)
  simp -implicitDefEqProofs only [go_sem]
  by_cases hb : n < 1 ∨ 32 < n
  · rw [if_pos hb, if_pos hb]
    by_cases hb1 : n < 1
    · simp -implicitDefEqProofs only [hb1, codeV, List.map_nil, go_sem]
    · have hb2 := hb.resolve_left hb1
      simp -implicitDefEqProofs only [hb1, hb2, codeV, List.map_nil, go_sem]
  rw [if_neg hb, if_neg hb]
  have hb1 : ¬ n < 1 := fun h => hb (.inl h)
  have hb2 : ¬ 32 < n := fun h => hb (.inr h)
  simp -implicitDefEqProofs only [hb1, hb2, go_sem]
  obtain ⟨hv, hp⟩ := chE_valid hc
  have hlen := hv.len
  have hpos := hv.pos
  have h2 := hv.q2
  have h16 := hv.q16
  obtain ⟨p, rfl⟩ : ∃ p : Nat, q = p := ⟨q.toNat, by omega⟩
  obtain ⟨m, rfl⟩ : ∃ m : Nat, n = m := ⟨n.toNat, by omega⟩
  rw [Int.toNat_natCast, Int.toNat_natCast]
  have hcp := pcode_of hv hp
  rw [Int.toNat_natCast] at hcp
  refine AWp.seq (AWp.of_awpD [] hΓ hmix (by kernel_rfl) ?_)
  simp -implicitDefEqProofs only [go_sem]
  refine callK_ac (c22 ws (by omega)) (by simp) ?_
  rintro v h' (⟨rfl, rfl, rfl⟩ | ⟨rk, hrk, hrk2, rfl, rfl⟩)
  · simp at hpos
  have hrk3 := hrk2 (fun e => by rw [e] at hpos; simp at hpos)
  subst hrk3
  simp -implicitDefEqProofs only [killAll, List.foldl, go_sem]
  have e62 := cm62 p ws hv
  unfold codeV at e62
  refine AWp.seq (AWp.of_awpD [] hΓ hmix (by kernel_rfl) ?_)
  simp -implicitDefEqProofs only [go_sem]
  refine callK_fn e62 (.still rfl) ?_
  have hM : embL p ws m = embT p (missing p ws) m (missing p ws).length := by unfold embL embT; rw [List.take_length]
  have hMm : ∀ w ∈ missing p ws, w.length ≤ 32 := fun w hw => (miss_short hcp (mem_missing.1 hw)).1
  have hMl : (missing p ws).length ≤ 32768 := by
    have h1 := made_le (missL p ws ws.length)
    have h2 := missL_len (q := p) (ws := ws) (by omega) (fun x hx => (hv.words x hx).2.1) ws.length (Nat.le_refl _)
    unfold missing
    omega
  rw [hM]
  generalize missing p ws = M at *
  simp -implicitDefEqProofs only [List.length_map, go_sem]
  refine AWp.loopJ (fun i : Nat => ⟨mkF 58 [(1, .p (.int .i64 m)), (2, .ptr 0 0), (4, .ptr 1 0), (5, .ptr 2 0), (7, .ptr 4 0), (28, .p (.sl (M.map .str))), (29, .p (.int .i64 M.length)), (30, .p (.int .i64 i))], [.box [.p (.int .i64 p), .p (.sl (ws.map .str))], .box [.p (.int .i64 0), .full []], .box [.p (.int .i64 0)], .row 9 1 ((ws ++ embT p M m i).map .str) (rkOf (embT p M m i)), .box [.own 3 (ws ++ embT p M m i).length]]⟩)
    (fun i => i ≤ M.length ∧ ws.length + (embT p M m i).length ≤ 64) (fun i => M.length - i) 0 (fun x => by simp [BelowAll, mkF, AV.blw, AV.blw.blwL, blwH, AObj.blw]) (by simp [go_sem, embT, rkOf]) ⟨by omega, by simp [embT]; omega⟩ ?_
  rintro i ⟨hi, h64⟩
  refine AWp.seq (AWp.of_awpD [] hΓ hmix (by kernel_rfl) ?_)
  simp -implicitDefEqProofs only [go_sem]
  by_cases hlt : i < M.length
  · have hlt' : (i : Int) < (M.length : Int) := by omega
    have hg : (M.map PV.str).getD i default = .str M[i] := getD_map_lt _ _ _ _ hlt
    have hw32 := hMm M[i] (List.getElem_mem hlt)
    have hsT := embT_succ (q := p) (n := m) hlt
    have hleT := embT_le (q := p) (M := M) (n := m) (show i + 1 ≤ M.length by omega) (Nat.le_refl _)
    refine AWp.seq (AWp.of_awpD [] hΓ hmix (by kernel_rfl) ?_)
    simp -implicitDefEqProofs only [hlt, go_sem]
    refine AWp.seq (AWp.block ?_)
    refine AWp.seq (AWp.of_awpD [] hΓ hmix (by kernel_rfl) ?_)
    simp -implicitDefEqProofs only [hlt, hg, Int.toNat_natCast, go_sem]
    refine AWp.seq (AWp.of_awpD [] hΓ hmix (by kernel_rfl) ?_)
    simp -implicitDefEqProofs only [go_sem]
    generalize hwe : M[i] = w at *
    have hmax : (if m < w.length then (w.length : Int) else (m : Int)) = ((max m w.length : Nat) : Int) := by split <;> omega
    rw [hmax]
    obtain ⟨n, hne⟩ : ∃ n, n = max m w.length := ⟨_, rfl⟩
    rw [← hne]
    have hnw : n - w.length = m - w.length := by omega
    refine callK_ac (c69 (p : Int) (n : Int) w) (by simp) ?_
    rintro v h' ⟨rfl, rfl⟩
    simp -implicitDefEqProofs only [killAll, List.foldl, go_sem]
    refine AWp.block ?_
    refine AWp.weak (st' := ⟨mkF 58 [(1, .p (.int .i64 m)), (2, .ptr 0 0), (4, .ptr 1 0), (5, .ptr 2 0), (7, .ptr 4 0), (28, .p (.sl (M.map .str))), (29, .p (.int .i64 M.length)), (30, .p (.int .i64 i)), (41, .fn 135 [.ptr 7 0, .ptr 5 0, .ptr 6 0])], [.box [.p (.int .i64 p), .p (.sl (ws.map .str))], .box [.p (.int .i64 0), .full []], .box [.p (.int .i64 0)], .row 9 1 ((ws ++ embT p M m i).map .str) (rkOf (embT p M m i)), .box [.own 3 (ws ++ embT p M m i).length], .box [.p (.int .i64 p)], .box [.p (.str w)], .box [.p (.int .i64 n)]]⟩) (by simp [go_sem, weakH_self]) ?_
    rw [show (#[42] : Array Nat) = [42].toArray from rfl]
    generalize hxe : embT p M m i = ys at *
    refine AWp.rangeFunc (ks := [3]) rfl (c113 (q := p) (ws := ws) (xs := ys) (w := w) (n := n) (N := 64 - ws.length) (by omega) (by omega) (by omega) (by omega) (by simp [mkF, AV.under, AV.under.underL]) ?_ ?_) (by simp) (by simp) ?_
    · intro xs x hx
      unfold emK
      refine YC.of_body (Γ := Γ) rfl rfl (by simp) ?_
      intro rr
      refine AWp.of_awpD [] hΓ hmix (by kernel_rfl) ?_
      simp -implicitDefEqProofs only [setP, go_sem]
      unfold BeginE
      refine ⟨rfl, ?_⟩
      simp -implicitDefEqProofs only [go_sem]
      refine AWp.of_awpD [] hΓ hmix (by kernel_rfl) ?_
      have hlx : (ws ++ xs).length = ws.length + xs.length := List.length_append
      have h64' : ¬ ((ws ++ xs).length : Int) = 64 := by omega
      have hs1 : sizeOK [PV.str x] 1 := by simp [sizeOK, PV.cells]
      have ho1 : oneOK [PV.str x] := by simp [oneOK, PV.cells, PV.isAgg]
      simp -implicitDefEqProofs only [h64', go_sem]
      refine ⟨⟨hs1, by omega⟩, ⟨hs1, ho1⟩, ⟨by unfold rkOf; split <;> simp, .inr (by simp), by omega, by omega⟩, ?_⟩
      unfold RoundE
      simp -implicitDefEqProofs only [killAll, List.foldl, AObj.kill, AV.kill, AV.kill.killL, go_sem]
      refine ⟨_, ?_, .inl rfl, ?_⟩
      rotate_left
      · rw [List.take_length, rkOf_snoc]
        simp
        omega
      · simp
    · intro xs x hx
      unfold emK
      refine YC.of_body (Γ := Γ) rfl rfl (by simp) ?_
      intro rr
      refine AWp.of_awpD [] hΓ hmix (by kernel_rfl) ?_
      simp -implicitDefEqProofs only [setP, go_sem]
      unfold BeginE
      refine ⟨rfl, ?_⟩
      simp -implicitDefEqProofs only [go_sem]
      refine AWp.of_awpD [] hΓ hmix (by kernel_rfl) ?_
      have hlx : (ws ++ xs).length = ws.length + xs.length := List.length_append
      have h64' : ((ws ++ xs).length : Int) = 64 := by omega
      simp -implicitDefEqProofs only [h64', go_sem]
      unfold RoundE
      simp -implicitDefEqProofs only [killAll, List.foldl, AObj.kill, AV.kill, AV.kill.killL, go_sem]
      refine ⟨_, ?_, .inl rfl, ?_⟩
      rotate_left
      · rw [List.take_length]
      · simp
    · rintro v h' (⟨g1, rfl⟩ | ⟨g1, zs, rfl⟩)
      · unfold emG RangeK
        simp -implicitDefEqProofs only [killAll, List.foldl, go_sem]
        refine AWp.of_awpD [] hΓ hmix (by kernel_rfl) ?_
        simp -implicitDefEqProofs only [List.set_cons_zero, List.set_cons_succ, go_sem]
        rw [hnw] at g1 ⊢
        refine ⟨by simp only [InR]; omega, i + 1, ⟨by omega, .inl ⟨by rw [hsT], by rw [hsT]⟩, by rw [hsT]⟩, ⟨hlt, by rw [hsT, List.length_append]; omega⟩, by omega⟩
      · unfold emG RangeK
        simp -implicitDefEqProofs only [killAll, List.foldl, go_sem]
        rw [hnw] at g1
        rw [hsT, List.length_append] at hleT
        have hbig : 64 < ws.length + (embT p M m M.length).length := by omega
        rw [if_pos hbig, if_pos hbig]
        exact ⟨rfl, rfl⟩
  have hiM : i = M.length := by omega
  subst hiM
  refine AWp.seq (AWp.of_awpD [] hΓ hmix (by kernel_rfl) ?_)
  simp -implicitDefEqProofs only [Nat.lt_irrefl, Int.lt_irrefl, go_sem]
  have hbig : ¬ 64 < ws.length + (embT p M m M.length).length := by omega
  rw [if_neg hbig, if_neg hbig]
  have e71 := t71 (p : Int) (ws ++ embT p M m M.length) (by rw [List.length_append]; omega)
  rw [← makeV] at e71
  obtain ⟨p1, us, hpu, _⟩ := makeV_code (p : Int) (ws ++ embT p M m M.length)
  rw [hpu] at e71 ⊢
  unfold codeV at e71
  refine AWp.of_awpD [] hΓ hmix (by kernel_rfl) ?_
  simp -implicitDefEqProofs only [go_sem]
  refine callK_give 3 e71 rfl (by simp [AV.thaw, AV.purL, AV.pur, AV.pur1]) ?_
  simp -implicitDefEqProofs only [AObj.thaw, AV.thaw, AV.thaw.thawL, List.map_cons, List.map_nil, List.set_cons_zero, List.set_cons_succ, codeV, go_sem]
  try done
end Go.Proofs.YtpljmccnfmkmfaaGreat
end

section
namespace Go.Proofs.YtpljmccnfmkmfaaGreat
open Go Go.AM List

def chl (q : Nat) (w : List UInt8) : List (List UInt8) := (List.range q).map fun a => w ++ [letA a]
def remE (q n : Nat) (l : List (List UInt8)) : List (List UInt8) := l.flatMap fun w => extL q w (n - w.length)
theorem remE_nil (q n : Nat) : remE q n [] = [] := rfl
theorem remE_cons (q n : Nat) (w : List UInt8) (l : List (List UInt8)) : remE q n (w :: l) = extL q w (n - w.length) ++ remE q n l := by unfold remE; rw [List.flatMap_cons]
theorem remE_append (q n : Nat) (l m : List (List UInt8)) : remE q n (l ++ m) = remE q n l ++ remE q n m := by unfold remE; rw [List.flatMap_append]
theorem ext_chl {q n : Nat} {w : List UInt8} (h : w.length < n) : extL q w (n - w.length) = remE q n (chl q w) := by
  obtain ⟨k, hk⟩ : ∃ k, n - w.length = k + 1 := ⟨n - w.length - 1, by omega⟩
  rw [hk]
  unfold remE chl
  rw [List.flatMap_map]
  have hf : (fun a => extL q (w ++ [letA a]) k) = fun a => extL q (w ++ [letA a]) (n - (w ++ [letA a]).length) := by
    funext a
    rw [List.length_append, List.length_singleton, show n - (w.length + 1) = k by omega]
  show (List.range q).flatMap (fun a => extL q (w ++ [letA a]) k) = _
  rw [hf]
theorem rem_grow {q n : Nat} {w : List UInt8} (h : w.length < n) (l : List (List UInt8)) : remE q n (l ++ chl q w) ~ remE q n (w :: l) := by
  rw [remE_append, remE_cons, ext_chl h]
  exact List.perm_append_comm
theorem rem_full {q n : Nat} {w : List UInt8} (h : n ≤ w.length) (l : List (List UInt8)) : remE q n (w :: l) = w :: remE q n l := by
  rw [remE_cons, show n - w.length = 0 by omega]; rfl
theorem ext_pos {q : Nat} (hq : 1 ≤ q) : ∀ (k : Nat) (w : List UInt8), 1 ≤ (extL q w k).length
  | 0, w => Nat.le_refl _
  | k + 1, w => by
    obtain ⟨p, rfl⟩ : ∃ p, q = p + 1 := ⟨q - 1, by omega⟩
    show 1 ≤ ((List.range (p + 1)).flatMap fun a => extL (p + 1) (w ++ [letA a]) k).length
    rw [List.range_succ, List.flatMap_append, List.length_append, List.flatMap_cons, List.length_append]
    have := ext_pos hq k (w ++ [letA p])
    omega
theorem rem_ge {q n : Nat} (hq : 1 ≤ q) : ∀ l : List (List UInt8), l.length ≤ (remE q n l).length
  | [] => Nat.le_refl _
  | w :: l => by
    rw [remE_cons, List.length_append, List.length_cons]
    have := ext_pos hq (n - w.length) w
    have := rem_ge (n := n) hq l
    omega
def mu (n : Nat) : List (List UInt8) → Nat
  | [] => 0
  | w :: l => 17 ^ (n + 1 - w.length) + mu n l
theorem mu_append (n : Nat) : ∀ l m : List (List UInt8), mu n (l ++ m) = mu n l + mu n m
  | [], m => by simp [mu]
  | w :: l, m => by rw [List.cons_append, mu, mu, mu_append n l, Nat.add_assoc]
theorem mu_pop (n : Nat) (w : List UInt8) (l : List (List UInt8)) : mu n l < mu n (w :: l) := by
  have : 0 < 17 ^ (n + 1 - w.length) := Nat.pow_pos (by omega)
  rw [mu]; omega
theorem mu_chl {n : Nat} {w : List UInt8} (h : w.length < n) : ∀ q, mu n (chl q w) = q * 17 ^ (n - w.length) := by
  intro q
  induction q with
  | zero => simp [chl, mu]
  | succ q ih =>
    have e : chl (q + 1) w = chl q w ++ [w ++ [letA q]] := by unfold chl; rw [List.range_succ, List.map_append]; rfl
    rw [e, mu_append, ih, mu, mu, List.length_append, List.length_singleton, Nat.succ_mul, show n + 1 - (w.length + 1) = n - w.length by omega]
    omega
theorem mu_grow {q n : Nat} {w : List UInt8} (hq : q ≤ 16) (h : w.length < n) (l : List (List UInt8)) : mu n (l ++ chl q w) < mu n (w :: l) := by
  rw [mu_append, mu_chl h, mu, show n + 1 - w.length = (n - w.length) + 1 by omega, Nat.pow_succ]
  have h1 : 0 < 17 ^ (n - w.length) := Nat.pow_pos (by omega)
  have h2 : q * 17 ^ (n - w.length) ≤ 16 * 17 ^ (n - w.length) := Nat.mul_le_mul_right _ hq
  omega
end Go.Proofs.YtpljmccnfmkmfaaGreat
end

section
namespace Go.Proofs.YtpljmccnfmkmfaaGreat
open Go Go.AM
set_option maxRecDepth 100000
set_option linter.unusedSimpArgs false

theorem u52 (w x : List UInt8) : PFn Tryz.prog 187 [.str w, .str x] [.bool (x.isPrefixOf w)] := by
  refine PFn.of_body hΓ Tryz.func187 (by kernel_rfl) rfl (AWp.of_awpD [] hΓ hmix (by kernel_rfl) ?_)
  simp +contextual -implicitDefEqProofs only [Tryz.ntmps187, Tryz.results187, Nat.reduceAdd, Nat.reduceSub, go_sem]
  refine ⟨fun h => ?_, fun h => ?_⟩
  · rw [Bool.eq_iff_iff, List.isPrefixOf_iff_prefix, List.prefix_iff_eq_take, decide_eq_true_eq]; exact eq_comm
  · rw [Bool.eq_iff_iff, List.isPrefixOf_iff_prefix]
    exact ⟨fun h => by simp at h, fun h' => absurd h'.length_le (by omega)⟩
end Go.Proofs.YtpljmccnfmkmfaaGreat
end

section
namespace Go.Proofs.YtpljmccnfmkmfaaGreat
open Go Go.AM
set_option maxRecDepth 100000
set_option linter.unusedSimpArgs false

theorem u16 (q : Int) (ws : List (List UInt8)) : PFn Tryz.prog 130 [codeV q ws] [.bool (if codeCheck q ws = 0 then aloneB (fun w x => x.isPrefixOf w) ws else false), .int .i64 (if codeCheck q ws = 0 then 0 else 1)] := by
  refine PFn.of_body hΓ Tryz.func130 (by kernel_rfl) rfl (AWp.of_awpD [] hΓ hmix (by kernel_rfl) ?_)
  simp +contextual -implicitDefEqProofs only [codeV, Tryz.ntmps130, Tryz.results130, Nat.reduceAdd, Nat.reduceSub, go_sem]
  refine callK_fn (t44 q ws) (.still rfl) ?_
  by_cases h : codeCheck q ws = 0
  · have hv := valid_of h
    have hws := hv.len
    rw [h]
    simp -implicitDefEqProofs only [go_sem]
    refine AWp.loopI (fun i : Nat => ⟨mkF 39 [(1, .ptr 0 0), (2, .p (.bool false)), (3, .p (.int .i64 0)), (4, .p (.int .i64 i))], [codeB q ws]⟩)
      (fun i => i ≤ ws.length ∧ aloneN (fun w x => x.isPrefixOf w) ws i = true) (fun i => ws.length - i) 0 (by simp [go_sem, codeB]) ⟨by omega, rfl⟩ ?_
    rintro i ⟨hi, hal⟩
    refine AWp.of_awpD [] hΓ hmix (by kernel_rfl) ?_
    by_cases hlt : i < ws.length
    · simp -implicitDefEqProofs only [hlt, getD_map_lt, ↓reduceIte, codeB, go_sem]
      refine AWp.loopI (fun k : Nat => ⟨mkF 39 [(1, .ptr 0 0), (2, .p (.bool false)), (3, .p (.int .i64 0)), (4, .p (.int .i64 i)), (5, .p (.int .i64 k))], [codeB q ws]⟩)
        (fun k => k ≤ ws.length ∧ aloneTo (fun w x => x.isPrefixOf w) ws i k = true) (fun k => ws.length - k) 0 (by simp [go_sem, codeB]) ⟨by omega, rfl⟩ ?_
      rintro k ⟨hk, hal2⟩
      refine AWp.of_awpD [(9, 16)] hΓ hmix (by kernel_rfl) ?_
      have hwi : ws.getD i [] = ws[i] := by rw [List.getD_eq_getElem?_getD, List.getElem?_eq_getElem hlt, Option.getD_some]
      have hsh : ws[i].length ≤ 9223372036854775807 := by have := hv.short i hlt; rw [hwi] at this; omega
      by_cases hlt2 : k < ws.length
      · have hwk : ws.getD k [] = ws[k] := by rw [List.getD_eq_getElem?_getD, List.getElem?_eq_getElem hlt2, Option.getD_some]
        by_cases he : (i : Int) = k
        · simp -implicitDefEqProofs only [hlt2, he, getD_map_lt, ↓reduceIte, codeB, go_sem]
          refine ⟨by simp only [InR]; omega, k + 1, by omega, ⟨hlt2, ?_⟩, by omega⟩
          rw [aloneTo_succ, hal2, decide_eq_true (by omega)]; rfl
        · simp -implicitDefEqProofs only [hlt, hlt2, he, getD_map_lt, ↓reduceIte, codeB, go_sem]
          refine callVPK_fn (u52 ws[i] ws[k]) (.pures rfl) ?_
          cases hp : ws[k].isPrefixOf ws[i]
          · simp -implicitDefEqProofs only [hlt, hlt2, he, getD_map_lt, ↓reduceIte, codeB, go_sem]
            refine ⟨by simp only [InR]; omega, k + 1, by omega, ⟨hlt2, ?_⟩, by omega⟩
            rw [aloneTo_succ, hal2, hwi, hwk, hp]; simp
          · simp -implicitDefEqProofs only [hlt, hlt2, he, getD_map_lt, ↓reduceIte, codeB, go_sem]
            rw [alone_bad hlt hlt2 (by omega) (by rw [hwi, hwk]; exact hp)]
      · simp -implicitDefEqProofs only [hlt2, codeB, go_sem]
        refine ⟨by simp only [InR]; omega, i + 1, by omega, ⟨hlt, ?_⟩, by omega⟩
        rw [aloneN_succ, hal, show ws.length = k by omega, hal2]; rfl
    · simp -implicitDefEqProofs only [hlt, codeB, go_sem]
      rw [show i = ws.length by omega] at hal; exact hal.symm
  · simp -implicitDefEqProofs only [h, go_sem]

end Go.Proofs.YtpljmccnfmkmfaaGreat
end

section
namespace Go.Proofs.YtpljmccnfmkmfaaGreat
open Go Go.AM
set_option maxRecDepth 100000
set_option maxHeartbeats 4000000
set_option linter.unusedSimpArgs false

theorem e24 (a b : List (List UInt8)) (hl : a.length ≤ 9223372036854775807) : PFn Tryz.prog 20 [.sl (a.map .str), .sl (b.map .str)] [.bool (decide (a = b))] := by
  refine PFn.of_body hΓ Tryz.func20 (by kernel_rfl) rfl (AWp.of_awpD [] hΓ hmix (by kernel_rfl) ?_)
  simp -implicitDefEqProofs only [Tryz.ntmps20, Tryz.results20, Nat.reduceAdd, Nat.reduceSub, go_sem]
  by_cases he : a.length = b.length
  rotate_left
  · simp -implicitDefEqProofs only [he, go_sem]
    exact (decide_eq_false fun e : a = b => he (by rw [e])).symm
  simp -implicitDefEqProofs only [he, go_sem]
  refine AWp.loopI (fun k : Nat => ⟨mkF 26 [(0, .p (.sl (a.map .str))), (1, .p (.sl (b.map .str))), (4, .p (.bool false)), (12, .p (.int .i64 b.length)), (13, .p (.int .i64 k))], []⟩)
    (fun k => k ≤ a.length ∧ a.take k = b.take k) (fun k => a.length - k) 0 (by simp [go_sem]) (by simp) ?_
  rintro k ⟨hk, heq⟩
  refine AWp.of_awpD [(6, 9)] hΓ hmix (by kernel_rfl) ?_
  by_cases hlt : k < a.length
  · have hltb : k < b.length := by omega
    by_cases hk' : a[k] = b[k]
    · simp -implicitDefEqProofs only [hlt, hltb, getD_map_lt, ↓reduceIte, hk', go_sem]
      refine ⟨by simp only [InR]; omega, k + 1, by simp, ⟨hlt, ?_⟩, by omega⟩
      rw [List.take_succ_eq_append_getElem hlt, List.take_succ_eq_append_getElem (by omega), heq, hk']
    · simp -implicitDefEqProofs only [hlt, hltb, getD_map_lt, ↓reduceIte, hk', go_sem]
      exact (decide_eq_false fun e : a = b => hk' (by subst e; rfl)).symm
  · have hltb : ¬ k < b.length := by omega
    simp -implicitDefEqProofs only [hlt, hltb, go_sem]
    rw [List.take_of_length_le (by omega), List.take_of_length_le (by omega)] at heq
    exact (decide_eq_true heq).symm
end Go.Proofs.YtpljmccnfmkmfaaGreat
end

section
namespace Go.Proofs.YtpljmccnfmkmfaaGreat
open Go Go.AM
set_option maxRecDepth 100000
set_option linter.unusedSimpArgs false

theorem cm16 (a : List Int) (x : Int) (hl : a.length ≤ 9223372036854775807) : PFn Tryz.prog 124 [.sl (a.map Kn.iV), .int .i64 x] [.bool (decide (x ∈ a))] := by
  have e := cm60 a x hl
  by_cases hx : x ∈ a
  · rw [if_pos hx] at e
    refine PFn.of_body hΓ Tryz.func124 (by kernel_rfl) rfl (AWp.of_awpD [] hΓ hmix (by kernel_rfl) ?_)
    simp -implicitDefEqProofs only [Tryz.ntmps124, Tryz.results124, Nat.reduceAdd, Nat.reduceSub, go_sem]
    refine callK_fn e (.pures rfl) ?_
    simp -implicitDefEqProofs only [hx, go_sem]
    try simp
  · rw [if_neg hx] at e
    refine PFn.of_body hΓ Tryz.func124 (by kernel_rfl) rfl (AWp.of_awpD [] hΓ hmix (by kernel_rfl) ?_)
    simp -implicitDefEqProofs only [Tryz.ntmps124, Tryz.results124, Nat.reduceAdd, Nat.reduceSub, go_sem]
    refine callK_fn e (.pures rfl) ?_
    simp -implicitDefEqProofs only [hx, go_sem]
    try simp

theorem c72 {h : List AObj} {b : Nat} (q : Int) (ws : List (List UInt8)) (k : Int) (hb : h[b]? = some (codeB q ws)) :
    AC Tryz.prog 123 [.p (.int .i64 k), .ptr b 0] h [] (fun v h' => v = .p (.bool (outR ws k)) ∧ h' = h) := by
  refine AC.of_bodyE hΓ Tryz.func123 (by kernel_rfl) rfl (AWp.mono (Q := fun e st => AM.Ends e ∧ st.tmps.getD 3 .junk = .p (.bool (outR ws k)) ∧ st.h = h) ?_ ?_)
  rotate_left
  · rintro e ⟨tm, h'⟩ ⟨he, h1, h2⟩
    simp only at h1 h2
    subst h2
    refine ⟨he, _, Less.refl _, ?_⟩
    unfold DoneE
    simp +contextual -implicitDefEqProofs only [Tryz.results123, h1, go_sem]
    exact ⟨_, Nat.le_refl _, .inl rfl, List.take_length⟩
  unfold outR
  unfold codeB at hb
  refine AWp.of_awpD [(1, 3)] hΓ hmix (by kernel_rfl) ?_
  by_cases h1 : k < 0
  · simp -implicitDefEqProofs only [Tryz.ntmps123, Nat.reduceAdd, Nat.reduceSub, hb, h1, go_sem]
    try simp [h1]
  · simp -implicitDefEqProofs only [Tryz.ntmps123, Nat.reduceAdd, Nat.reduceSub, hb, h1, List.length_map, go_sem]
    try simp [h1]
end Go.Proofs.YtpljmccnfmkmfaaGreat
end

section
namespace Go.Proofs.YtpljmccnfmkmfaaGreat
open Go Go.AM
set_option maxRecDepth 100000
set_option maxHeartbeats 4000000
set_option linter.unusedSimpArgs false

def leftN (ws : List (List UInt8)) (l : List Int) (n : Nat) : List (List UInt8) := (List.range n).flatMap fun k : Nat => if (k : Int) ∈ l then [] else [ws.getD k []]
theorem leftN_yes {ws : List (List UInt8)} {l : List Int} {n : Nat} (h : (n : Int) ∈ l) : leftN ws l (n + 1) = leftN ws l n := by
  unfold leftN; rw [List.range_succ, List.flatMap_append]; simp [h]
theorem leftN_no {ws : List (List UInt8)} {l : List Int} {n : Nat} (h : ¬ (n : Int) ∈ l) (hn : n < ws.length) : leftN ws l (n + 1) = leftN ws l n ++ [ws[n]] := by
  unfold leftN; rw [List.range_succ, List.flatMap_append]; simp [h, List.getD_eq_getElem?_getD, List.getElem?_eq_getElem hn]
theorem leftN_len (ws : List (List UInt8)) (l : List Int) : ∀ n, (leftN ws l n).length ≤ n
  | 0 => by simp [leftN]
  | n + 1 => by
    have ih := leftN_len ws l n
    have e : leftN ws l (n + 1) = leftN ws l n ++ (if (n : Int) ∈ l then [] else [ws.getD n []]) := by unfold leftN; rw [List.range_succ, List.flatMap_append]; simp
    rw [e, List.length_append]
    split <;> simp only [List.length_nil, List.length_cons] <;> omega
theorem leftN_mem {ws : List (List UInt8)} {l : List Int} {n : Nat} (hn : n ≤ ws.length) : ∀ x ∈ leftN ws l n, x ∈ ws := fun x hx => by
  unfold leftN at hx
  obtain ⟨k, hk, hx⟩ := List.mem_flatMap.1 hx
  have hk := List.mem_range.1 hk
  split at hx
  · cases hx
  · rw [List.mem_singleton.1 hx, List.getD_eq_getElem?_getD, List.getElem?_eq_getElem (show k < ws.length by omega), Option.getD_some]
    exact List.getElem_mem _
def othersN (L : List (List UInt8)) (i : Nat) : List (List UInt8) := L.take i ++ L.drop (i + 1)
def cutN (os : List (List UInt8)) (w : List UInt8) : Nat := ((List.range (w.length + 1)).find? fun n : Nat => decide (0 < n) && !(os.any fun x => (w.take n).isPrefixOf x)).getD (w.length + 1)
def cutL (os : List (List UInt8)) (w : List UInt8) : List (List UInt8) := if cutN os w ≤ w.length then [w.take (cutN os w)] else []
def pruneN (L : List (List UInt8)) (n : Nat) : List (List UInt8) := (List.range n).flatMap fun i : Nat => cutL (othersN L i) (L.getD i [])
theorem pruneN_succ {L : List (List UInt8)} {n : Nat} (hn : n < L.length) : pruneN L (n + 1) = pruneN L n ++ cutL (othersN L n) L[n] := by
  unfold pruneN; rw [List.range_succ, List.flatMap_append]; simp [List.getD_eq_getElem?_getD, List.getElem?_eq_getElem hn]

theorem cutN_le (os : List (List UInt8)) (w : List UInt8) : cutN os w ≤ w.length + 1 := by
  unfold cutN
  cases h : (List.range (w.length + 1)).find? fun n : Nat => decide (0 < n) && !(os.any fun x => (w.take n).isPrefixOf x) with
  | none => simp
  | some n =>
    have := List.mem_of_find?_eq_some h
    rw [List.mem_range] at this
    simp only [Option.getD_some]; omega
theorem cutN_at {os : List (List UInt8)} {w : List UInt8} (h : cutN os w ≤ w.length) : 0 < cutN os w ∧ (os.any fun x => (w.take (cutN os w)).isPrefixOf x) = false := by
  unfold cutN at h ⊢
  cases hf : (List.range (w.length + 1)).find? fun n : Nat => decide (0 < n) && !(os.any fun x => (w.take n).isPrefixOf x) with
  | none =>
    have h' : (none : Option Nat).getD (w.length + 1) ≤ w.length := by rw [← hf]; exact h
    rw [Option.getD_none] at h'
    omega
  | some n =>
    have := List.find?_some hf
    simp only [Bool.and_eq_true, decide_eq_true_eq, Bool.not_eq_true'] at this
    exact this
theorem cutN_lt {os : List (List UInt8)} {w : List UInt8} {n : Nat} (h : n < cutN os w) (hn : n ≤ w.length) : n = 0 ∨ (os.any fun x => (w.take n).isPrefixOf x) = true := by
  unfold cutN at h
  rcases Nat.eq_zero_or_pos n with h0 | h0
  · exact .inl h0
  refine .inr ?_
  cases hf : (List.range (w.length + 1)).find? fun n : Nat => decide (0 < n) && !(os.any fun x => (w.take n).isPrefixOf x) with
  | none =>
    have := List.find?_eq_none.1 hf n (List.mem_range.2 (by omega))
    cases hb : (os.any fun x => (w.take n).isPrefixOf x)
    · exact absurd (by simp [hb, h0]) this
    · rfl
  | some m =>
    rw [hf] at h
    simp only [Option.getD_some] at h
    obtain ⟨_, ls, bs, hab, hls⟩ := List.find?_eq_some_iff_append.1 hf
    cases hb : (os.any fun x => (w.take n).isPrefixOf x)
    · have hmem : n ∈ ls := by
        have hnr : n ∈ List.range (w.length + 1) := List.mem_range.2 (by omega)
        have hp := List.pairwise_lt_range (n := w.length + 1)
        rw [hab] at hnr hp
        rcases List.mem_append.1 hnr with h1 | h1
        · exact h1
        · rcases List.mem_cons.1 h1 with h2 | h2
          · omega
          · have := (List.pairwise_cons.1 (List.pairwise_append.1 hp).2.1).1 n h2
            omega
      have := hls n hmem
      simp [h0, hb] at this
    · rfl

theorem pruneN_len (L : List (List UInt8)) : ∀ n, (pruneN L n).length ≤ n
  | 0 => by simp [pruneN]
  | n + 1 => by
    have ih := pruneN_len L n
    have e : pruneN L (n + 1) = pruneN L n ++ cutL (othersN L n) (L.getD n []) := by unfold pruneN; rw [List.range_succ, List.flatMap_append]; simp
    rw [e, List.length_append]
    unfold cutL
    split <;> simp only [List.length_nil, List.length_cons] <;> omega
def puH (q : Int) (ws : List (List UInt8)) (os : List (List UInt8)) (rk : RK) (w : List UInt8) (out : List (List UInt8)) (rk4 : RK) (rec : AObj) : List AObj :=
  [.box [.p (.int .i64 q), .p (.sl (ws.map .str))], .box [.p (.int .i64 0), .full []], .dead, .box [.own 4 out.length], .row 9 1 (out.map .str) rk4, .row 9 1 (os.map .str) rk, .box [.own 5 os.length], .box [.p (.str w)], rec]

theorem c116s {b cw : Nat} {ks : List Nat} (hbk : b ∉ ks) (hwk : cw ∉ ks) (w : List UInt8) (hwl : w.length ≤ 100000) {H0 HM : List AObj} (N : Nat) (hlen : H0.length ≤ HM.length) (hbw : H0[cw]? = some (.box [.p (.str w)]))
    (hround : ∀ n, n < N → n ≤ w.length → YC Tryz.prog b [.p (.str (w.take n))] H0 ks (fun v h' => v = .p (.bool true) ∧ h' = H0))
    (hstop : (N = w.length + 1 ∧ HM = H0) ∨ (N ≤ w.length ∧ YC Tryz.prog b [.p (.str (w.take N))] H0 ks (fun v h' => v = .p (.bool false) ∧ h' = HM))) :
    AC Tryz.prog 182 [.yld b, .ptr cw 0] H0 ks (fun _ h' => h' = HM) := by
  rcases hstop with ⟨h1, h2⟩ | ⟨h1, h2⟩
  · subst h2
    exact c116 hbk hwk w hwl (fun _ => HM) N N (Nat.le_refl _) (fun _ _ => hbw) hround (.inl ⟨h1, rfl⟩)
  · have e0 : (if 0 ≤ N then H0 else HM) = H0 := if_pos (Nat.zero_le _)
    have eN : (if N ≤ N then H0 else HM) = H0 := if_pos (Nat.le_refl _)
    have eM : (if N + 1 ≤ N then H0 else HM) = HM := if_neg (by omega)
    have h := c116 hbk hwk w hwl (fun n => if n ≤ N then H0 else HM) N (N + 1) (by simp only [e0, eM]; exact hlen) (fun n hn => by simp only [if_pos hn]; exact hbw)
      (fun n hn hw => by simp only [if_pos (Nat.le_of_lt hn), if_pos (show n + 1 ≤ N from hn)]; exact hround n hn hw) (.inr ⟨h1, by simp only [eN, eM]; exact h2⟩)
    simp only [e0, eM] at h
    exact h

theorem c116q {q : Int} {ws os : List (List UInt8)} {rk : RK} {w : List UInt8} {out : List (List UInt8)} (hwl : w.length ≤ 100000) (N : Nat) (hN : N = w.length + 1) {tm : List AV} {ps : List Nat} {cs bd : Code}
    (hround : ∀ n, n < N → n ≤ w.length → YC Tryz.prog 8 [.p (.str (w.take n))] (puH q ws os rk w out .lax (.lp tm ps cs bd .ready)) [4] (fun v h' => v = .p (.bool true) ∧ h' = puH q ws os rk w out .lax (.lp tm ps cs bd .ready))) :
    AC Tryz.prog 182 [.yld 8, .ptr 7 0] (puH q ws os rk w out .lax (.lp tm ps cs bd .ready)) [4] (fun _ h' => h' = puH q ws os rk w out .lax (.lp tm ps cs bd .ready)) :=
  c116s (by simp) (by simp) w hwl N (Nat.le_refl _) rfl hround (.inl ⟨hN, rfl⟩)
theorem c116p {q : Int} {ws os : List (List UInt8)} {rk : RK} {w : List UInt8} {out : List (List UInt8)} (hwl : w.length ≤ 100000) (N : Nat) (hN : N ≤ w.length) {tm : List AV} {ps : List Nat} {cs bd : Code}
    (hround : ∀ n, n < N → n ≤ w.length → YC Tryz.prog 8 [.p (.str (w.take n))] (puH q ws os rk w out .lax (.lp tm ps cs bd .ready)) [4] (fun v h' => v = .p (.bool true) ∧ h' = puH q ws os rk w out .lax (.lp tm ps cs bd .ready)))
    (hstop : YC Tryz.prog 8 [.p (.str (w.take N))] (puH q ws os rk w out .lax (.lp tm ps cs bd .ready)) [4] (fun v h' => v = .p (.bool false) ∧ h' = puH q ws os rk w (out ++ [w.take N]) .own (.lp tm ps cs bd (.left (.exit 4))))) :
    AC Tryz.prog 182 [.yld 8, .ptr 7 0] (puH q ws os rk w out .lax (.lp tm ps cs bd .ready)) [4] (fun _ h' => h' = puH q ws os rk w (out ++ [w.take N]) .own (.lp tm ps cs bd (.left (.exit 4)))) :=
  c116s (by simp) (by simp) w hwl N (by simp [puH]) rfl hround (.inr ⟨hN, hstop⟩)

def puI (q : Int) (ws : List (List UInt8)) (os : List (List UInt8)) (rk : RK) (w : List UInt8) (out : List (List UInt8)) (rk4 : RK) (rec : AObj) : List AObj :=
  [.box [.p (.int .i64 q), .p (.sl (ws.map .str))], .box [.p (.int .i64 0), .full []], .dead, .box [.own 4 out.length], .row 9 1 (out.map .str) rk4, .box [.own 6 os.length], .row 9 1 (os.map .str) rk, .box [.p (.str w)], rec]

theorem c116qI {q : Int} {ws os : List (List UInt8)} {rk : RK} {w : List UInt8} {out : List (List UInt8)} (hwl : w.length ≤ 100000) (N : Nat) (hN : N = w.length + 1) {tm : List AV} {ps : List Nat} {cs bd : Code}
    (hround : ∀ n, n < N → n ≤ w.length → YC Tryz.prog 8 [.p (.str (w.take n))] (puI q ws os rk w out .lax (.lp tm ps cs bd .ready)) [4] (fun v h' => v = .p (.bool true) ∧ h' = puI q ws os rk w out .lax (.lp tm ps cs bd .ready))) :
    AC Tryz.prog 182 [.yld 8, .ptr 7 0] (puI q ws os rk w out .lax (.lp tm ps cs bd .ready)) [4] (fun _ h' => h' = puI q ws os rk w out .lax (.lp tm ps cs bd .ready)) :=
  c116s (by simp) (by simp) w hwl N (Nat.le_refl _) rfl hround (.inl ⟨hN, rfl⟩)
theorem c116pI {q : Int} {ws os : List (List UInt8)} {rk : RK} {w : List UInt8} {out : List (List UInt8)} (hwl : w.length ≤ 100000) (N : Nat) (hN : N ≤ w.length) {tm : List AV} {ps : List Nat} {cs bd : Code}
    (hround : ∀ n, n < N → n ≤ w.length → YC Tryz.prog 8 [.p (.str (w.take n))] (puI q ws os rk w out .lax (.lp tm ps cs bd .ready)) [4] (fun v h' => v = .p (.bool true) ∧ h' = puI q ws os rk w out .lax (.lp tm ps cs bd .ready)))
    (hstop : YC Tryz.prog 8 [.p (.str (w.take N))] (puI q ws os rk w out .lax (.lp tm ps cs bd .ready)) [4] (fun v h' => v = .p (.bool false) ∧ h' = puI q ws os rk w (out ++ [w.take N]) .own (.lp tm ps cs bd (.left (.exit 4))))) :
    AC Tryz.prog 182 [.yld 8, .ptr 7 0] (puI q ws os rk w out .lax (.lp tm ps cs bd .ready)) [4] (fun _ h' => h' = puI q ws os rk w (out ++ [w.take N]) .own (.lp tm ps cs bd (.left (.exit 4)))) :=
  c116s (by simp) (by simp) w hwl N (by simp [puI]) rfl hround (.inr ⟨hN, hstop⟩)

def pruneE (q : Int) (ws : List (List UInt8)) (l : List Int) : Int :=
  if chE q ws ≠ 0 then chE q ws else if l.any (outR ws) then 2 else if (leftN ws l ws.length).length = 0 then 5 else codeCheck q (made (pruneN (leftN ws l ws.length) (leftN ws l ws.length).length))
def pruneW (q : Int) (ws : List (List UInt8)) (l : List Int) : PV :=
  if pruneE q ws l = 0 then codeV q (made (pruneN (leftN ws l ws.length) (leftN ws l ws.length).length)) else codeV 0 []

theorem cm27 (q : Int) (ws : List (List UInt8)) (l : List Int) (hl : l.length ≤ 9223372036854775807) :
    PFn Tryz.prog 61 [codeV q ws, .sl (l.map Kn.iV)] [pruneW q ws l, .int .i64 (pruneE q ws l)] := by
  have e61 := cm61 q ws
  refine PFn.of_body hΓ Tryz.func61 (by kernel_rfl) rfl (AWp.seq (AWp.of_awpD [] hΓ hmix (by kernel_rfl) ?_))
  simp -implicitDefEqProofs only [Tryz.ntmps61, Tryz.results61, Nat.reduceAdd, Nat.reduceSub, codeV, go_sem]
  refine AWp.seq ?_
  refine AWp.of_awpD [] hΓ hmix (by kernel_rfl) ?_
  simp -implicitDefEqProofs only [go_sem]
  refine callK_fn e61 (.still rfl) ?_
  by_cases hc : chE q ws = 0
  rotate_left
  · have hE : pruneE q ws l = chE q ws := by unfold pruneE; rw [if_pos hc]
    unfold pruneW
    rw [hE, if_neg hc]
    simp -implicitDefEqProofs only [hc, codeV, List.map_nil, go_sem]
  rw [hc]
  simp -implicitDefEqProofs only [go_sem]
  refine AWp.seq (AWp.of_awpD [] hΓ hmix (by kernel_rfl) ?_)
  simp -implicitDefEqProofs only [go_sem]
  have hout : ∀ h : List AObj, AC Tryz.prog 70 [.p (.sl (l.map Kn.iV)), .fn 123 [.ptr 0 0]] (codeB q ws :: h) [] (fun v h' => v = .p (.bool (l.any (outR ws))) ∧ h' = codeB q ws :: h) := fun h => Kn.c48 l hl fun k _ => c72 q ws k rfl
  unfold codeB at hout
  refine callK_ac (hout _) (by simp) ?_
  rintro v h' ⟨rfl, rfl⟩
  cases ho : l.any (outR ws)
  rotate_left
  · have hE : pruneE q ws l = 2 := by unfold pruneE; rw [if_neg (fun h => h hc), if_pos ho]
    unfold pruneW
    rw [hE, if_neg (by decide)]
    simp -implicitDefEqProofs only [killAll, List.foldl, codeV, List.map_nil, go_sem]
  simp -implicitDefEqProofs only [killAll, List.foldl, go_sem]
  refine AWp.seq (AWp.of_awpD [] hΓ hmix (by kernel_rfl) ?_)
  simp -implicitDefEqProofs only [go_sem]
  refine AWp.seq (AWp.of_awpD [] hΓ hmix (by kernel_rfl) ?_)
  simp -implicitDefEqProofs only [go_sem]
  refine AWp.adopt (l := []) 7 9 1 (by rfl) (by simp) ?_
  simp -implicitDefEqProofs only [go_sem]
  have hv : codeCheck q ws = 0 := by
    unfold chE at hc
    by_cases h : codeCheck q ws = 0
    · exact h
    · rw [if_neg h] at hc; omega
  have hlen := (valid_of hv).len
  refine AWp.loopI (fun i : Nat => ⟨mkF 84 [(1, .p (.sl (l.map Kn.iV))), (2, .ptr 0 0), (4, .ptr 1 0), (5, .p (.int .i64 0)), (7, .own 2 (leftN ws l i).length), (26, .p (.sl (ws.map .str))), (27, .p (.int .i64 ws.length)), (28, .p (.int .i64 i))], [.box [.p (.int .i64 q), .p (.sl (ws.map .str))], .box [.p (.int .i64 0), .full []], .row 9 1 ((leftN ws l i).map .str) .lax]⟩)
    (fun i => i ≤ ws.length) (fun i => ws.length - i) 0 (by simp [go_sem, leftN]) (by omega) ?_
  intro i hi
  refine AWp.of_awpD [] hΓ hmix (by kernel_rfl) ?_
  by_cases hlt : i < ws.length
  · have hlt' : (i : Int) < (ws.length : Int) := by omega
    have hg : (ws.map PV.str).getD i default = .str ws[i] := getD_map_lt _ _ _ _ hlt
    have e16 := cm16 l i hl
    by_cases hm : (i : Int) ∈ l
    · rw [decide_eq_true hm] at e16
      simp -implicitDefEqProofs only [hlt', hg, Int.toNat_natCast, go_sem]
      refine callK_fn e16 (.pures rfl) ?_
      simp -implicitDefEqProofs only [go_sem]
      exact ⟨by simp only [InR]; omega, i + 1, by rw [leftN_yes hm]; simp [weakH_self], hlt, by omega⟩
    · rw [decide_eq_false hm] at e16
      have hL := leftN_len ws l i
      have hs1 : sizeOK [PV.str ws[i]] 1 := by simp [sizeOK, PV.cells]
      have ho1 : oneOK [PV.str ws[i]] := by simp [oneOK, PV.cells, PV.isAgg]
      simp -implicitDefEqProofs only [hlt', hg, Int.toNat_natCast, go_sem]
      refine callK_fn e16 (.pures rfl) ?_
      simp -implicitDefEqProofs only [go_sem]
      refine ⟨⟨hs1, by omega⟩, ⟨hs1, ho1⟩, ⟨by simp, by omega, by omega⟩, by simp only [InR]; omega, i + 1, ⟨⟨by rw [leftN_no hm hlt]; simp, by simp⟩, .inr ?_⟩, hlt, by omega⟩
      rw [leftN_no hm hlt]
      simp
  have hlt' : ¬ (i : Int) < (ws.length : Int) := by omega
  have hiw : i = ws.length := by omega
  subst hiw
  simp -implicitDefEqProofs only [Int.lt_irrefl, Nat.lt_irrefl, go_sem]
  have hL := leftN_len ws l ws.length
  have hLm := leftN_mem (ws := ws) (l := l) (Nat.le_refl _)
  generalize hLe : leftN ws l ws.length = L at *
  refine AWp.freeze 2 rfl ?_
  refine AWp.seq (AWp.of_awpD [] hΓ hmix (by kernel_rfl) ?_)
  by_cases h0 : L.length = 0
  · have hE : pruneE q ws l = 5 := by unfold pruneE; rw [if_neg (fun h => h hc), if_neg (by rw [ho]; decide), hLe, if_pos h0]
    unfold pruneW
    rw [hE, if_neg (by decide)]
    have hz0 : ((0 : Nat) : Int) = 0 := rfl
    simp -implicitDefEqProofs only [Frozen, h0, List.length_map, codeV, List.map_nil, hz0, go_sem]
  have h0' : ¬ (L.length : Int) = 0 := by omega
  simp -implicitDefEqProofs only [Frozen, h0', List.length_map, go_sem]
  refine AWp.seq (AWp.of_awpD [] hΓ hmix (by kernel_rfl) ?_)
  simp -implicitDefEqProofs only [go_sem]
  refine AWp.adoptBox (l := []) 3 9 1 rfl (by simp) ?_
  simp -implicitDefEqProofs only [List.set_cons_zero, List.set_cons_succ, go_sem]
  refine AWp.seq (AWp.seq (AWp.of_awpD [] hΓ hmix (by kernel_rfl) ?_))
  simp -implicitDefEqProofs only [go_sem]
  refine AWp.block ?_
  refine AWp.loopJ (fun i : Nat => ⟨mkF 84 [(2, .ptr 0 0), (4, .ptr 1 0), (5, .p (.int .i64 0)), (7, .p (.sl (L.map .str))), (10, .ptr 3 0), (46, .p (.sl (L.map .str))), (47, .p (.int .i64 L.length)), (48, .p (.int .i64 i))], [.box [.p (.int .i64 q), .p (.sl (ws.map .str))], .box [.p (.int .i64 0), .full []], .dead, .box [.own 4 (pruneN L i).length], .row 9 1 ((pruneN L i).map .str) .lax]⟩)
    (fun i => i ≤ L.length) (fun i => L.length - i) 0 (fun x => by simp [BelowAll, mkF, AV.blw, AV.blw.blwL, blwH, AObj.blw]) (by simp [go_sem, pruneN]) (by omega) ?_
  intro i hi
  refine AWp.seq (AWp.of_awpD [] hΓ hmix (by kernel_rfl) ?_)
  simp -implicitDefEqProofs only [go_sem]
  refine AWp.seq (AWp.of_awpD [] hΓ hmix (by kernel_rfl) ?_)
  by_cases hlt : i < L.length
  · have hlt' : (i : Int) < (L.length : Int) := by omega
    have hg : (L.map PV.str).getD i default = .str L[i] := getD_map_lt _ _ _ _ hlt
    simp -implicitDefEqProofs only [hlt, go_sem]
    refine AWp.seq (AWp.block ?_)
    refine AWp.seq (AWp.of_awpD [] hΓ hmix (by kernel_rfl) ?_)
    simp -implicitDefEqProofs only [hlt, hg, Int.toNat_natCast, List.length_map, go_sem]
    refine AWp.seq ?_
    refine AWp.planL (.q 0 (.q 1 (.q 2 (.q 3 (.q 4 (.q 5 (.q 6 (.q 7 (.e 8 (.e 9 (.s 0 (.s 1 (.s 2 (.s 3 (.s 4 (.s 5 (.s 6 (.s 7 (.e 10 .fin .nil))))))))) .nil) (.e 9 (.s 0 (.s 1 (.s 2 (.s 3 (.s 4 (.s 5 (.s 6 (.s 7 (.e 8 (.e 10 .fin .nil) .nil))))))))) .nil)))))))))) hΓ hmix (by kernel_rfl) ?_
    have hnat : ((i : Int) + 1).toNat = i + 1 := by omega
    simp -implicitDefEqProofs only [List.length_map, hnat, go_sem]
    refine ⟨size_str _, by omega, by simp only [InR]; omega, size_str _, ⟨by omega, by omega⟩, ⟨by simp [sizeOK, PV.cells], by omega⟩, ?_, ?_⟩
    · have hw2 : [PV.sl (List.take i (List.map PV.str L)), PV.sl (List.drop (i + 1) (List.map PV.str L))] = wssV [L.take i, L.drop (i + 1)] := by simp [wssV, wsV]
      rw [hw2]
      refine callK_ac (c29b ?_ (L.take i) (L.drop (i + 1)) (by simp; omega)).full0 (by simp) ?_
      · simp [AObj.kill, AV.kill]
      rintro v h' ⟨rk, hrk, rfl, rfl⟩
      simp -implicitDefEqProofs only [killAll, List.foldl, go_sem]
      refine ⟨⟨size_str _, by omega⟩, by simp only [InR]; omega, ⟨size_str _, ⟨by omega, by omega⟩, by rw [hnat]⟩, ⟨⟨by simp [sizeOK, PV.cells], by omega⟩, by rw [hw2]⟩, ?_⟩
      refine AWp.seq (AWp.of_awpD [] hΓ hmix (by kernel_rfl) ?_)
      simp -implicitDefEqProofs only [hnat, go_sem]
      refine callK_ac (c73 _) (by simp) ?_
      rintro v h' ⟨rfl, rfl⟩
      simp -implicitDefEqProofs only [killAll, List.foldl, List.length_append, List.length_cons, List.length_nil, go_sem]
      have hwl : L[i].length ≤ 100000 := by have := ((valid_of hv).words _ (hLm _ (List.getElem_mem hlt))).2.1; omega
      have hosl : (othersN L i).length ≤ 9223372036854775807 := by simp [othersN]; omega
      have hcle := cutN_le (othersN L i) L[i]
      have hcat := @cutN_at (othersN L i) L[i]
      have hclt := @cutN_lt (othersN L i) L[i]
      rw [show L.take i ++ L.drop (i + 1) = othersN L i from rfl, show (L.take i).length + (L.drop (i + 1)).length = (othersN L i).length from by simp [othersN]]
      have hpl := pruneN_len L i
      generalize hwe : L[i] = w at *
      generalize hoe : othersN L i = os at *
      generalize hNe : cutN os w = N at *
      generalize hpe : pruneN L i = out at *
      refine AWp.block ?_
      refine AWp.weak (st' := ⟨mkF 84 [(2, .ptr 0 0), (4, .ptr 1 0), (5, .p (.int .i64 0)), (7, .p (.sl (L.map .str))), (10, .ptr 3 0), (13, .ptr 6 0), (46, .p (.sl (L.map .str))), (47, .p (.int .i64 L.length)), (48, .p (.int .i64 i)), (63, .fn 182 [.ptr 7 0])], _⟩) (by simp [go_sem, weakH_self]; exact weakH_refl _) ?_
      rw [show (#[64] : Array Nat) = [64].toArray from rfl]
      by_cases hN : N ≤ w.length
      · obtain ⟨hN0, hNo⟩ := hcat hN
        refine AWp.rangeFunc (ks := [4]) rfl (c116p (q := q) (ws := ws) (os := os) (rk := rk) (w := w) (out := out) hwl N hN ?_ ?_) (by simp) (by simp) ?_
        · intro n hn hnw
          have hb := hclt hn hnw
          unfold puH
          refine YC.of_body (Γ := Γ) rfl rfl (by simp) ?_
          intro rr
          refine AWp.of_awpD [] hΓ hmix (by kernel_rfl) ?_
          simp -implicitDefEqProofs only [setP, go_sem]
          unfold BeginE
          refine ⟨rfl, ?_⟩
          simp -implicitDefEqProofs only [go_sem]
          refine AWp.of_awpD [] hΓ hmix (by kernel_rfl) ?_
          by_cases hp : w.take n = []
          · rw [hp]
            simp -implicitDefEqProofs only [go_sem]
            unfold RoundE
            simp -implicitDefEqProofs only [go_sem]
            refine ⟨_, ?_, .inl rfl, ?_⟩
            rotate_left
            · rw [List.take_length]
            · simp
          · have e74 := cm74 os (w.take n) hosl
            rw [hb.resolve_left (fun h => hp (by rw [h, List.take_zero]))] at e74
            simp -implicitDefEqProofs only [hp, go_sem]
            refine callK_fn e74 (.owned rfl rfl) ?_
            simp -implicitDefEqProofs only [go_sem]
            unfold RoundE
            simp -implicitDefEqProofs only [killAll, List.foldl, AObj.kill, AV.kill, AV.kill.killL, go_sem]
            refine ⟨_, ?_, .inl rfl, ?_⟩
            rotate_left
            · rw [List.take_length]
            · simp
        · unfold puH
          have hp : ¬ w.take N = [] := fun h => by
            have := congrArg List.length h
            rw [List.length_take, List.length_nil] at this
            omega
          have e74 := cm74 os (w.take N) hosl
          rw [hNo] at e74
          have hs1 : sizeOK [PV.str (w.take N)] 1 := by simp [sizeOK, PV.cells]
          have ho1 : oneOK [PV.str (w.take N)] := by simp [oneOK, PV.cells, PV.isAgg]
          refine YC.of_body (Γ := Γ) rfl rfl (by simp) ?_
          intro rr
          refine AWp.of_awpD [] hΓ hmix (by kernel_rfl) ?_
          simp -implicitDefEqProofs only [setP, go_sem]
          unfold BeginE
          refine ⟨rfl, ?_⟩
          simp -implicitDefEqProofs only [go_sem]
          refine AWp.of_awpD [] hΓ hmix (by kernel_rfl) ?_
          simp -implicitDefEqProofs only [hp, go_sem]
          refine callK_fn e74 (.owned rfl rfl) ?_
          simp -implicitDefEqProofs only [go_sem]
          refine ⟨⟨hs1, by omega⟩, ⟨hs1, ho1⟩, ⟨.inr (by simp), by omega, by omega⟩, ?_⟩
          unfold RoundE
          simp -implicitDefEqProofs only [killAll, List.foldl, AObj.kill, AV.kill, AV.kill.killL, go_sem]
          refine ⟨_, ?_, .inl rfl, ?_⟩
          rotate_left
          · rw [List.take_length]
            simp
          · simp
        · rintro v h' rfl
          unfold puH RangeK
          simp -implicitDefEqProofs only [killAll, List.foldl, go_sem]
          refine AWp.of_awpD [] hΓ hmix (by kernel_rfl) ?_
          simp -implicitDefEqProofs only [List.set_cons_zero, List.set_cons_succ, go_sem]
          subst hpe hoe hwe
          have hps := pruneN_succ hlt
          unfold cutL at hps
          rw [hNe, if_pos hN] at hps
          refine ⟨by simp only [InR]; omega, i + 1, ⟨by simp, ?_⟩, hlt, by omega⟩
          rw [hps]
          simp
      · have hNe2 : N = w.length + 1 := by omega
        refine AWp.rangeFunc (ks := [4]) rfl (c116q (q := q) (ws := ws) (os := os) (rk := rk) (w := w) (out := out) hwl N hNe2 ?_) (by simp) (by simp) ?_
        · intro n hn hnw
          have hb := hclt hn hnw
          unfold puH
          refine YC.of_body (Γ := Γ) rfl rfl (by simp) ?_
          intro rr
          refine AWp.of_awpD [] hΓ hmix (by kernel_rfl) ?_
          simp -implicitDefEqProofs only [setP, go_sem]
          unfold BeginE
          refine ⟨rfl, ?_⟩
          simp -implicitDefEqProofs only [go_sem]
          refine AWp.of_awpD [] hΓ hmix (by kernel_rfl) ?_
          by_cases hp : w.take n = []
          · rw [hp]
            simp -implicitDefEqProofs only [go_sem]
            unfold RoundE
            simp -implicitDefEqProofs only [go_sem]
            refine ⟨_, ?_, .inl rfl, ?_⟩
            rotate_left
            · rw [List.take_length]
            · simp
          · have e74 := cm74 os (w.take n) hosl
            rw [hb.resolve_left (fun h => hp (by rw [h, List.take_zero]))] at e74
            simp -implicitDefEqProofs only [hp, go_sem]
            refine callK_fn e74 (.owned rfl rfl) ?_
            simp -implicitDefEqProofs only [go_sem]
            unfold RoundE
            simp -implicitDefEqProofs only [killAll, List.foldl, AObj.kill, AV.kill, AV.kill.killL, go_sem]
            refine ⟨_, ?_, .inl rfl, ?_⟩
            rotate_left
            · rw [List.take_length]
            · simp
        · rintro v h' rfl
          unfold puH RangeK
          simp -implicitDefEqProofs only [killAll, List.foldl, go_sem]
          refine AWp.of_awpD [] hΓ hmix (by kernel_rfl) ?_
          simp -implicitDefEqProofs only [List.set_cons_zero, List.set_cons_succ, go_sem]
          subst hpe hoe hwe
          have hps := pruneN_succ hlt
          unfold cutL at hps
          rw [hNe, if_neg hN, List.append_nil] at hps
          refine ⟨by simp only [InR]; omega, i + 1, ⟨by simp [hps], ?_⟩, hlt, by omega⟩
          rw [hps]
          simp
    · have hw2 : [PV.sl (List.take i (List.map PV.str L)), PV.sl (List.drop (i + 1) (List.map PV.str L))] = wssV [L.take i, L.drop (i + 1)] := by simp [wssV, wsV]
      refine ⟨⟨size_str _, by omega⟩, by simp only [InR]; omega, ⟨size_str _, by omega, by omega⟩, ⟨by simp [sizeOK, PV.cells], by omega⟩, ?_⟩
      rw [hw2]
      refine callK_ac (c29b ?_ (L.take i) (L.drop (i + 1)) (by simp; omega)).full0 (by simp) ?_
      · simp [AObj.kill, AV.kill]
      rintro v h' ⟨rk, hrk, rfl, rfl⟩
      simp -implicitDefEqProofs only [killAll, List.foldl, go_sem]
      refine AWp.seq (AWp.of_awpD [] hΓ hmix (by kernel_rfl) ?_)
      simp -implicitDefEqProofs only [hnat, go_sem]
      refine callK_ac (c73 _) (by simp) ?_
      rintro v h' ⟨rfl, rfl⟩
      simp -implicitDefEqProofs only [killAll, List.foldl, List.length_append, List.length_cons, List.length_nil, go_sem]
      have hwl : L[i].length ≤ 100000 := by have := ((valid_of hv).words _ (hLm _ (List.getElem_mem hlt))).2.1; omega
      have hosl : (othersN L i).length ≤ 9223372036854775807 := by simp [othersN]; omega
      have hcle := cutN_le (othersN L i) L[i]
      have hcat := @cutN_at (othersN L i) L[i]
      have hclt := @cutN_lt (othersN L i) L[i]
      rw [show L.take i ++ L.drop (i + 1) = othersN L i from rfl, show (L.take i).length + (L.drop (i + 1)).length = (othersN L i).length from by simp [othersN]]
      have hpl := pruneN_len L i
      generalize hwe : L[i] = w at *
      generalize hoe : othersN L i = os at *
      generalize hNe : cutN os w = N at *
      generalize hpe : pruneN L i = out at *
      refine AWp.block ?_
      refine AWp.weak (st' := ⟨mkF 84 [(2, .ptr 0 0), (4, .ptr 1 0), (5, .p (.int .i64 0)), (7, .p (.sl (L.map .str))), (10, .ptr 3 0), (13, .ptr 5 0), (46, .p (.sl (L.map .str))), (47, .p (.int .i64 L.length)), (48, .p (.int .i64 i)), (63, .fn 182 [.ptr 7 0])], _⟩) (by simp [go_sem, weakH_self]; exact weakH_refl _) ?_
      rw [show (#[64] : Array Nat) = [64].toArray from rfl]
      by_cases hN : N ≤ w.length
      · obtain ⟨hN0, hNo⟩ := hcat hN
        refine AWp.rangeFunc (ks := [4]) rfl (c116pI (q := q) (ws := ws) (os := os) (rk := rk) (w := w) (out := out) hwl N hN ?_ ?_) (by simp) (by simp) ?_
        · intro n hn hnw
          have hb := hclt hn hnw
          unfold puI
          refine YC.of_body (Γ := Γ) rfl rfl (by simp) ?_
          intro rr
          refine AWp.of_awpD [] hΓ hmix (by kernel_rfl) ?_
          simp -implicitDefEqProofs only [setP, go_sem]
          unfold BeginE
          refine ⟨rfl, ?_⟩
          simp -implicitDefEqProofs only [go_sem]
          refine AWp.of_awpD [] hΓ hmix (by kernel_rfl) ?_
          by_cases hp : w.take n = []
          · rw [hp]
            simp -implicitDefEqProofs only [go_sem]
            unfold RoundE
            simp -implicitDefEqProofs only [go_sem]
            refine ⟨_, ?_, .inl rfl, ?_⟩
            rotate_left
            · rw [List.take_length]
            · simp
          · have e74 := cm74 os (w.take n) hosl
            rw [hb.resolve_left (fun h => hp (by rw [h, List.take_zero]))] at e74
            simp -implicitDefEqProofs only [hp, go_sem]
            refine callK_fn e74 (.owned rfl rfl) ?_
            simp -implicitDefEqProofs only [go_sem]
            unfold RoundE
            simp -implicitDefEqProofs only [killAll, List.foldl, AObj.kill, AV.kill, AV.kill.killL, go_sem]
            refine ⟨_, ?_, .inl rfl, ?_⟩
            rotate_left
            · rw [List.take_length]
            · simp
        · unfold puI
          have hp : ¬ w.take N = [] := fun h => by
            have := congrArg List.length h
            rw [List.length_take, List.length_nil] at this
            omega
          have e74 := cm74 os (w.take N) hosl
          rw [hNo] at e74
          have hs1 : sizeOK [PV.str (w.take N)] 1 := by simp [sizeOK, PV.cells]
          have ho1 : oneOK [PV.str (w.take N)] := by simp [oneOK, PV.cells, PV.isAgg]
          refine YC.of_body (Γ := Γ) rfl rfl (by simp) ?_
          intro rr
          refine AWp.of_awpD [] hΓ hmix (by kernel_rfl) ?_
          simp -implicitDefEqProofs only [setP, go_sem]
          unfold BeginE
          refine ⟨rfl, ?_⟩
          simp -implicitDefEqProofs only [go_sem]
          refine AWp.of_awpD [] hΓ hmix (by kernel_rfl) ?_
          simp -implicitDefEqProofs only [hp, go_sem]
          refine callK_fn e74 (.owned rfl rfl) ?_
          simp -implicitDefEqProofs only [go_sem]
          refine ⟨⟨hs1, by omega⟩, ⟨hs1, ho1⟩, ⟨.inr (by simp), by omega, by omega⟩, ?_⟩
          unfold RoundE
          simp -implicitDefEqProofs only [killAll, List.foldl, AObj.kill, AV.kill, AV.kill.killL, go_sem]
          refine ⟨_, ?_, .inl rfl, ?_⟩
          rotate_left
          · rw [List.take_length]
            simp
          · simp
        · rintro v h' rfl
          unfold puI RangeK
          simp -implicitDefEqProofs only [killAll, List.foldl, go_sem]
          refine AWp.of_awpD [] hΓ hmix (by kernel_rfl) ?_
          simp -implicitDefEqProofs only [List.set_cons_zero, List.set_cons_succ, go_sem]
          subst hpe hoe hwe
          have hps := pruneN_succ hlt
          unfold cutL at hps
          rw [hNe, if_pos hN] at hps
          refine ⟨by simp only [InR]; omega, i + 1, ⟨by simp, ?_⟩, hlt, by omega⟩
          rw [hps]
          simp
      · have hNe2 : N = w.length + 1 := by omega
        refine AWp.rangeFunc (ks := [4]) rfl (c116qI (q := q) (ws := ws) (os := os) (rk := rk) (w := w) (out := out) hwl N hNe2 ?_) (by simp) (by simp) ?_
        · intro n hn hnw
          have hb := hclt hn hnw
          unfold puI
          refine YC.of_body (Γ := Γ) rfl rfl (by simp) ?_
          intro rr
          refine AWp.of_awpD [] hΓ hmix (by kernel_rfl) ?_
          simp -implicitDefEqProofs only [setP, go_sem]
          unfold BeginE
          refine ⟨rfl, ?_⟩
          simp -implicitDefEqProofs only [go_sem]
          refine AWp.of_awpD [] hΓ hmix (by kernel_rfl) ?_
          by_cases hp : w.take n = []
          · rw [hp]
            simp -implicitDefEqProofs only [go_sem]
            unfold RoundE
            simp -implicitDefEqProofs only [go_sem]
            refine ⟨_, ?_, .inl rfl, ?_⟩
            rotate_left
            · rw [List.take_length]
            · simp
          · have e74 := cm74 os (w.take n) hosl
            rw [hb.resolve_left (fun h => hp (by rw [h, List.take_zero]))] at e74
            simp -implicitDefEqProofs only [hp, go_sem]
            refine callK_fn e74 (.owned rfl rfl) ?_
            simp -implicitDefEqProofs only [go_sem]
            unfold RoundE
            simp -implicitDefEqProofs only [killAll, List.foldl, AObj.kill, AV.kill, AV.kill.killL, go_sem]
            refine ⟨_, ?_, .inl rfl, ?_⟩
            rotate_left
            · rw [List.take_length]
            · simp
        · rintro v h' rfl
          unfold puI RangeK
          simp -implicitDefEqProofs only [killAll, List.foldl, go_sem]
          refine AWp.of_awpD [] hΓ hmix (by kernel_rfl) ?_
          simp -implicitDefEqProofs only [List.set_cons_zero, List.set_cons_succ, go_sem]
          subst hpe hoe hwe
          have hps := pruneN_succ hlt
          unfold cutL at hps
          rw [hNe, if_neg hN, List.append_nil] at hps
          refine ⟨by simp only [InR]; omega, i + 1, ⟨by simp [hps], ?_⟩, hlt, by omega⟩
          rw [hps]
          simp
  · have hlt' : ¬ (i : Int) < (L.length : Int) := by omega
    have hiL : i = L.length := by omega
    subst hiL
    simp -implicitDefEqProofs only [Int.lt_irrefl, Nat.lt_irrefl, go_sem]
    refine AWp.freeze 4 rfl ?_
    have e65 := t71 q (pruneN L L.length) (by have := pruneN_len L L.length; omega)
    refine AWp.of_awpD [] hΓ hmix (by kernel_rfl) ?_
    simp -implicitDefEqProofs only [Frozen, AV.thaw, AObj.thaw, AV.thaw.thawL, List.map_cons, List.map_nil, List.set_cons_zero, List.set_cons_succ, go_sem]
    have hE : pruneE q ws l = codeCheck q (made (pruneN L L.length)) := by unfold pruneE; rw [if_neg (fun h => h hc), if_neg (by rw [ho]; decide), hLe, if_neg h0]
    unfold pruneW
    rw [hE, hLe]
    by_cases hm : codeCheck q (made (pruneN L L.length)) = 0
    · rw [if_pos hm] at e65 ⊢
      unfold codeV at e65 ⊢
      refine callK_fn e65 (.pures rfl) ?_
      simp -implicitDefEqProofs only [codeV, go_sem]
    · rw [if_neg hm] at e65 ⊢
      unfold codeV at e65 ⊢
      refine callK_fn e65 (.pures rfl) ?_
      simp -implicitDefEqProofs only [codeV, List.map_nil, go_sem]
end Go.Proofs.YtpljmccnfmkmfaaGreat
end

section
namespace Go.Proofs.YtpljmccnfmkmfaaGreat
open Go Go.AM
set_option maxRecDepth 100000
set_option maxHeartbeats 4000000
set_option linter.unusedSimpArgs false

end Go.Proofs.YtpljmccnfmkmfaaGreat
end

section
namespace Go.Proofs.YtpljmccnfmkmfaaGreat
open Go Go.AM
set_option maxRecDepth 100000
set_option maxHeartbeats 4000000
set_option linter.unusedSimpArgs false

theorem p126 (w x : List UInt8) : PFn Tryz.prog 188 [.str w, .str x] [.bool (x.isPrefixOf w)] := by
  refine PFn.of_body hΓ Tryz.func188 (by kernel_rfl) rfl (AWp.of_awpD [] hΓ hmix (by kernel_rfl) ?_)
  simp +contextual -implicitDefEqProofs only [Tryz.ntmps188, Tryz.results188, Nat.reduceAdd, Nat.reduceSub, go_sem]
  refine ⟨fun h => ?_, fun h => ?_⟩
  · rw [Bool.eq_iff_iff, List.isPrefixOf_iff_prefix, List.prefix_iff_eq_take, decide_eq_true_eq]; exact eq_comm
  · rw [Bool.eq_iff_iff, List.isPrefixOf_iff_prefix]
    exact ⟨fun h => by simp at h, fun h' => absurd h'.length_le (by omega)⟩

theorem p87 (l : List (List UInt8)) (u : List UInt8) (hl : l.length ≤ 9223372036854775807) : PFn Tryz.prog 131 [.sl (l.map .str), .str u] [.bool (l.any fun x => u.isPrefixOf x)] := by
  refine PFn.of_body hΓ Tryz.func131 (by kernel_rfl) rfl (AWp.of_awpD [] hΓ hmix (by kernel_rfl) ?_)
  simp -implicitDefEqProofs only [Tryz.ntmps131, Tryz.results131, Nat.reduceAdd, Nat.reduceSub, go_sem]
  refine AWp.loopI (fun k : Nat => ⟨mkF 18 [(0, .p (.sl (l.map .str))), (1, .p (.str u)), (4, .p (.bool false)), (5, .p (.int .i64 k))], []⟩)
    (fun k => k ≤ l.length ∧ ((l.take k).any fun x => u.isPrefixOf x) = false) (fun k => l.length - k) 0 (by simp [go_sem]) (by simp) ?_
  rintro k ⟨hk, h0⟩
  refine AWp.of_awpD [] hΓ hmix (by kernel_rfl) ?_
  by_cases hlt : k < l.length
  · simp -implicitDefEqProofs only [hlt, getD_map_lt, ↓reduceIte, go_sem]
    refine callK_fn (p126 l[k] u) (.pures rfl) ?_
    cases hp : u.isPrefixOf l[k]
    · simp -implicitDefEqProofs only [go_sem]
      refine ⟨by simp only [InR]; omega, k + 1, by simp, ⟨hlt, ?_⟩, by omega⟩
      rw [List.take_succ_eq_append_getElem hlt, List.any_append, h0]; simp [hp]
    · simp -implicitDefEqProofs only [go_sem]
      rw [List.any_eq_true.2 ⟨_, List.getElem_mem hlt, hp⟩]
  · simp -implicitDefEqProofs only [hlt, go_sem]
    rw [List.take_of_length_le (by omega)] at h0; rw [h0]

theorem p63 (q : Int) (ws : List (List UInt8)) : PFn Tryz.prog 64 [codeV q ws] [.int .i64 (chE q ws)] := by
  have e1 := u16 q ws
  refine PFn.of_body hΓ Tryz.func64 (by kernel_rfl) rfl (AWp.of_awpD [] hΓ hmix (by kernel_rfl) ?_)
  unfold chE preP
  unfold codeV at e1 ⊢
  simp -implicitDefEqProofs only [Tryz.ntmps64, Tryz.results64, Nat.reduceAdd, Nat.reduceSub, go_sem]
  by_cases h : codeCheck q ws = 0
  · rw [if_pos h, if_pos h] at e1
    rw [if_pos h]
    refine callK_fn e1 (.still rfl) ?_
    cases hb : aloneB (fun w x => x.isPrefixOf w) ws
    · simp -implicitDefEqProofs only [go_sem]
    · simp -implicitDefEqProofs only [go_sem]
  · rw [if_neg h, if_neg h] at e1
    rw [if_neg h]
    refine callK_fn e1 (.still rfl) ?_
    simp -implicitDefEqProofs only [show ¬ (1 : Int) = 0 by decide, go_sem]

end Go.Proofs.YtpljmccnfmkmfaaGreat
end

section
namespace Go.Proofs.YtpljmccnfmkmfaaGreat
open Go Go.AM
set_option maxRecDepth 100000
set_option linter.unusedSimpArgs false

theorem weakH_snoc {a b : AObj} (h : b = .dead ∨ b = a ∨ laxer a b) : ∀ H : List AObj, weakH (H ++ [a]) (H ++ [b])
  | [] => ⟨h, trivial⟩
  | _ :: H => ⟨.inr (.inl rfl), weakH_snoc h H⟩

def putAt (l : List (List UInt8)) (k : Nat) (w : List UInt8) : List (List UInt8) := l.take k ++ [w] ++ l.drop k
theorem putAt_strict {l : List (List UInt8)} {k : Nat} {w : List UInt8} (hp : l.Pairwise ltW) (hk : k ≤ l.length) (hlow : ∀ j, j < k → cmpW (l.getD j []) w < 0) (hup : k < l.length → ltW w (l.getD k [])) : (putAt l k w).Pairwise ltW := by
  have h1 := List.pairwise_iff_getElem.1 hp
  unfold putAt
  rw [List.append_assoc, List.pairwise_append]
  refine ⟨hp.sublist (List.take_sublist k l), ?_, fun x hx y hy => ?_⟩
  · rw [List.singleton_append, List.pairwise_cons]
    refine ⟨fun y hy => ?_, hp.sublist (List.drop_sublist k l)⟩
    obtain ⟨j, hj, rfl⟩ := List.getElem_of_mem hy
    rw [List.getElem_drop]
    rw [List.length_drop] at hj
    have h2 := hup (by omega)
    rw [List.getD_eq_getElem?_getD, List.getElem?_eq_getElem (by omega), Option.getD_some] at h2
    by_cases e : j = 0
    · subst e; exact h2
    · exact ltW_trans h2 (h1 k (k + j) (by omega) (by omega) (by omega))
  · obtain ⟨j, hj, rfl⟩ := List.mem_take_iff_getElem.1 hx
    have hjk : j < k := by omega
    have hjl : j < l.length := by omega
    have h3 := hlow j hjk
    rw [List.getD_eq_getElem?_getD, List.getElem?_eq_getElem hjl, Option.getD_some] at h3
    rcases List.mem_cons.1 (by simpa using hy) with rfl | hy
    · exact (ltW_iff _ _).1 h3
    · obtain ⟨q, hq, rfl⟩ := List.getElem_of_mem hy
      rw [List.getElem_drop]
      rw [List.length_drop] at hq
      exact h1 j (k + q) hjl (by omega) (by omega)
theorem mem_putAt {l : List (List UInt8)} {k : Nat} {w x : List UInt8} : x ∈ putAt l k w ↔ x ∈ l ∨ x = w := by
  unfold putAt
  conv => rhs; rw [← List.take_append_drop k l]
  simp only [List.mem_append, List.mem_singleton]
  constructor
  · rintro ((h | h) | h)
    · exact .inl (.inl h)
    · exact .inr h
    · exact .inl (.inr h)
  · rintro ((h | h) | h)
    · exact .inl (.inl h)
    · exact .inr h
    · exact .inl (.inr h)
theorem putAt_len {l : List (List UInt8)} {k : Nat} {w : List UInt8} (hk : k ≤ l.length) : (putAt l k w).length = l.length + 1 := by
  unfold putAt; simp; omega

end Go.Proofs.YtpljmccnfmkmfaaGreat
end

