/-
  The reference's Sorted as a row of its own.
  The reference's missing; Missing of both.
  The reference's Great and Make.
  Complete, of both.
  The reference's Embed.
  The chapter's examples: reckoned, but for Kraft's sum, its comparison with 1, and Prune, whose contracts are known.
  The reference's Same.
  The law CompletionWords (f3).
-/
import Derived.Test.YtpljmccnfmkmfaaGreatJb8c818e806b9
import Derived.Test.YtpljmccnfmkmfaaGreatJ0340af87381c
import Derived.Test.YtpljmccnfmkmfaaGreatJ7df3a5da96ba
import Derived.Test.YtpljmccnfmkmfaaGreatJecdd198a9424
import Derived.Test.YtpljmccnfmkmfaaGreatJ211b9e059869

section
namespace Go.Proofs.YtpljmccnfmkmfaaGreat
open Go Go.AM
set_option maxRecDepth 100000
set_option maxHeartbeats 4000000
set_option linter.unusedSimpArgs false

def rkS (l : List (List UInt8)) : RK := if l.isEmpty then .lax else .own
def stO (m : Nat) (l : List (List UInt8)) : List AObj := List.replicate m .dead ++ [.row 9 1 (l.map .str) (rkS l)]
theorem rkS_put (l : List (List UInt8)) (k : Nat) (w : List UInt8) : rkS (putAt l k w) = .own := by
  unfold rkS putAt
  simp
theorem rkS_mem {l : List (List UInt8)} {w : List UInt8} (h : w ∈ l) : rkS l = .own := by
  cases l with
  | nil => cases h
  | cons a l => rfl

theorem u50o (ws : List (List UInt8)) (hne : ws ≠ []) (hl : ws.length ≤ 1000000) : PRowO Tryz.prog 132 [.sl (ws.map .str)] 9 1 ((made ws).map .str) := by
  refine AC.of_bodyE hΓ Tryz.func132 (by kernel_rfl) rfl (AWp.mono (Q := fun e st => AM.Ends e ∧ ∃ m, st.tmps.getD 2 .junk = .own m (made ws).length ∧ st.h = List.replicate m .dead ++ [.row 9 1 ((made ws).map .str) .own]) ?_ ?_)
  rotate_left
  · rintro e ⟨tm, h'⟩ ⟨he, m, h1, h2⟩
    simp only at h1 h2
    subst h2
    refine ⟨he, _, Less.refl _, ?_⟩
    unfold DoneE
    simp +contextual -implicitDefEqProofs only [Tryz.results132, h1, go_sem]
    exact ⟨m + 1, by simp, .inl (by simp), m, rfl, by simp⟩
  refine AWp.of_awpD [] hΓ hmix (by kernel_rfl) ?_
  simp -implicitDefEqProofs only [Tryz.ntmps132, Tryz.results132, Nat.reduceAdd, Nat.reduceSub, List.map_cons, List.map_nil, go_sem]
  refine AWp.adopt (l := []) 3 9 1 (by rfl) (by simp) ?_
  simp -implicitDefEqProofs only [go_sem]
  refine AWp.loopI (fun x : Nat × List (List UInt8) × Nat => ⟨mkF 60 [(0, .p (.sl (ws.map .str))), (3, .own x.2.2 x.2.1.length), (4, .p (.int .i64 x.1))], stO x.2.2 x.2.1⟩)
    (fun x => x.1 ≤ ws.length ∧ x.2.1.length ≤ x.1 ∧ x.2.1.Pairwise ltW ∧ (∀ v, v ∈ x.2.1 ↔ v ∈ ws.take x.1)) (fun x => ws.length - x.1) (0, [], 0) (by simp [go_sem, stO, rkS]) (by simp) ?_
  rintro ⟨i, l, m⟩ ⟨hi, hli, hp, hm⟩
  simp only at hi hli hp hm
  by_cases hlt : i < ws.length
  rotate_left
  · refine AWp.of_awpD [(8, 15), (9, 1000)] hΓ hmix (by kernel_rfl) ?_
    rw [List.take_of_length_le (by omega)] at hm
    have hml : made ws = l := made_of hp (fun x => (hm x).symm)
    have hrk : rkS l = .own := by
      cases ws with
      | nil => exact absurd rfl hne
      | cons a ws => exact rkS_mem ((hm a).2 (by simp))
    rw [hml]
    unfold stO
    rw [hrk]
    simp -implicitDefEqProofs only [hlt, go_sem]
    exact ⟨m, rfl, rfl⟩
  by_cases hin : ws[i] ∈ l
  · have hrk := rkS_mem hin
    unfold stO
    simp only [hrk]
    obtain ⟨H, hH⟩ : ∃ H : List AObj, H = List.replicate m .dead := ⟨_, rfl⟩
    have hHl : H.length = m := by rw [hH]; simp
    rw [← hH]
    have gL : ∀ o : AObj, (H ++ [o])[m]? = some o := fun o => by rw [← hHl]; simp
    refine AWp.of_awpD [(8, 15), (9, 1000)] hΓ hmix (by kernel_rfl) ?_
    simp -implicitDefEqProofs only [hlt, getD_map_lt, ↓reduceIte, go_sem]
    refine AWp.loopI (fun k : Nat => ⟨mkF 60 [(0, .p (.sl (ws.map .str))), (3, .own m l.length), (4, .p (.int .i64 i)), (5, .p (.int .i64 k))], H ++ [.row 9 1 (l.map .str) .own]⟩)
      (fun k => k ≤ l.length ∧ ∀ j, j < k → cmpW (l.getD j []) ws[i] < 0) (fun k => l.length - k) 0 (by simp [go_sem, weakH_self]) (by simp) ?_
    rintro k ⟨hk, hlow⟩
    refine AWp.of_awpD [(6, 15)] hΓ hmix (by kernel_rfl) ?_
    have hmem : ∀ v, v ∈ l ↔ v ∈ ws.take (i + 1) := fun v => by
      rw [hm, List.take_succ_eq_append_getElem hlt, List.mem_append, List.mem_singleton]
      refine ⟨.inl, fun h => h.elim id fun h => ?_⟩
      subst h
      exact (hm _).1 hin
    by_cases hkl : k < l.length
    · simp -implicitDefEqProofs only [hlt, hkl, getD_map_lt, ↓reduceIte, gL, List.length_map, go_sem]
      refine callVPK_fn (t79' l[k] ws[i]) (.pures rfl) ?_
      by_cases hc : cmpW l[k] ws[i] < 0
      · simp -implicitDefEqProofs only [hlt, hkl, hc, decide_true, getD_map_lt, ↓reduceIte, go_sem]
        refine ⟨by simp only [InR]; omega, k + 1, ⟨by omega, weakH_self _⟩, ⟨by omega, fun j hj => ?_⟩, by omega⟩
        by_cases hjk : j = k
        · subst hjk
          rw [List.getD_eq_getElem?_getD, List.getElem?_eq_getElem hkl, Option.getD_some]; exact hc
        · exact hlow j (by omega)
      · have he : l[k] = ws[i] := by
          obtain ⟨j, hj, hjw⟩ := List.getElem_of_mem hin
          rcases Nat.lt_trichotomy j k with h | h | h
          · have := hlow j h
            rw [List.getD_eq_getElem?_getD, List.getElem?_eq_getElem hj, Option.getD_some, hjw] at this
            exact absurd ((ltW_iff _ _).1 this) (ltW_irrefl _)
          · subst h; exact hjw
          · have := List.pairwise_iff_getElem.1 hp k j hkl hj h
            rw [hjw] at this
            exact absurd ((ltW_iff _ _).2 this) hc
        have hc' : ¬ cmpW ws[i] ws[i] < 0 := by rw [he] at hc; exact hc
        simp -implicitDefEqProofs only [hlt, hkl, hc', decide_false, he, getD_map_lt, ↓reduceIte, gL, go_sem]
        refine ⟨by simp only [InR]; omega, (i + 1, l, m), ⟨⟨⟨rfl, rfl⟩, by simp⟩, ?_⟩, ⟨by simp only; omega, by simp only; omega, hp, hmem⟩, by simp only; omega⟩
        simp only [hrk]; rw [← hH]; exact weakH_self _
    · obtain ⟨j, hj, hjw⟩ := List.getElem_of_mem hin
      have := hlow j (by omega)
      rw [List.getD_eq_getElem?_getD, List.getElem?_eq_getElem hj, Option.getD_some, hjw] at this
      exact absurd ((ltW_iff _ _).1 this) (ltW_irrefl _)
  · refine AWp.freeze (E := 9) (s := 1) (k := rkS l) (xs := l.map .str) m (by simp [stO]) ?_
    have e : ∀ st : St, st = ⟨mkF 60 [(0, .p (.sl (ws.map .str))), (3, .own m l.length), (4, .p (.int .i64 i))], stO m l⟩ → Frozen st m (l.map .str) = ⟨mkF 60 [(0, .p (.sl (ws.map .str))), (3, .p (.sl (l.map .str))), (4, .p (.int .i64 i))], List.replicate (m + 1) .dead⟩ := by
      rintro _ rfl
      simp [Frozen, go_sem, stO, List.replicate_succ', AV.thaw, AObj.thaw]
    rw [e _ rfl]
    clear e
    obtain ⟨H, hH⟩ : ∃ H : List AObj, H = List.replicate (m + 1) .dead := ⟨_, rfl⟩
    have hHl : H.length = m + 1 := by rw [hH]; simp
    have hK : H.map (AObj.kill (m + 1)) = H := by rw [hH]; simp [AObj.kill]
    rw [← hH]
    have gL : ∀ o : AObj, (H ++ [o])[H.length]? = some o := fun o => by simp
    have sL : ∀ o o' : AObj, (H ++ [o]).set H.length o' = H ++ [o'] := fun o o' => by simp
    have hKL : H.map (AObj.kill H.length) = H := by rw [hHl]; exact hK
    refine AWp.of_awpD [(8, 15), (9, 1000)] hΓ hmix (by kernel_rfl) ?_
    simp -implicitDefEqProofs only [hlt, getD_map_lt, ↓reduceIte, go_sem]
    refine AWp.loopI (fun k : Nat => ⟨mkF 60 [(0, .p (.sl (ws.map .str))), (3, .p (.sl (l.map .str))), (4, .p (.int .i64 i)), (5, .p (.int .i64 k))], H⟩)
      (fun k => k ≤ l.length ∧ ∀ j, j < k → cmpW (l.getD j []) ws[i] < 0) (fun k => l.length - k) 0 (by simp [go_sem, weakH_self]) (by simp) ?_
    rintro k ⟨hk, hlow⟩
    refine AWp.of_awpD [(6, 15)] hΓ hmix (by kernel_rfl) ?_
    by_cases hkl : k < l.length
    · simp -implicitDefEqProofs only [hlt, hkl, getD_map_lt, ↓reduceIte, go_sem]
      refine callVPK_fn (t79' l[k] ws[i]) (.pures rfl) ?_
      by_cases hc : cmpW l[k] ws[i] < 0
      · simp -implicitDefEqProofs only [hlt, hkl, hc, decide_true, getD_map_lt, ↓reduceIte, go_sem]
        refine ⟨by simp only [InR]; omega, k + 1, ⟨by omega, weakH_self _⟩, ⟨by omega, fun j hj => ?_⟩, by omega⟩
        by_cases hjk : j = k
        · subst hjk
          rw [List.getD_eq_getElem?_getD, List.getElem?_eq_getElem hkl, Option.getD_some]; exact hc
        · exact hlow j (by omega)
      · by_cases he : l[k] = ws[i]
        · exact absurd (he ▸ List.getElem_mem hkl) hin
        · simp -implicitDefEqProofs only [hlt, hkl, hc, decide_false, he, getD_map_lt, ↓reduceIte, go_sem]
          have hup : k < l.length → ltW ws[i] (l.getD k []) := fun _ => by
            rw [List.getD_eq_getElem?_getD, List.getElem?_eq_getElem hkl, Option.getD_some]
            apply Classical.byContradiction
            intro hno
            exact he (ltW_total (fun h => hc ((ltW_iff _ _).2 h)) hno)
          refine AWp.planL (.q 0 (.q 1 (.q 2 (.q 3 (.q 5 (.q 6 (.q 7 (.q 8 (.q 9 (.q 11 (.q 12 (.q 13 (.e 4 (.s 5 (.s 6 (.s 7 (.s 8 (.s 9 (.s 11 (.s 12 (.s 13 (.e 10 (.s 11 (.s 12 (.s 13 (.e 14 (.q 15 .fin) .nil)))) .nil))))))))) .nil))))))))))))) hΓ hmix (by kernel_rfl) ?_
          simp -implicitDefEqProofs only [hlt, hkl, getD_map_lt, ↓reduceIte, gL, sL, hKL, go_sem]
          have hpl := putAt_strict hp hk hlow hup
          have hlen := putAt_len (w := ws[i]) hk
          have hmem : ∀ v, v ∈ putAt l k ws[i] ↔ v ∈ ws.take (i + 1) := fun v => by
            rw [mem_putAt, hm, List.take_succ_eq_append_getElem hlt, List.mem_append, List.mem_singleton]
          have ht : (l.take k).length = k := by simp; omega
          have hd : (l.drop k).length = l.length - k := by simp
          rw [← List.map_take, ← List.map_drop]
          generalize hrk : (if (List.map PV.str (List.take k l)).isEmpty = true then RK.lax else RK.own) = rk1
          have hr1 : rk1 ≠ .raw := by rw [← hrk]; split <;> simp
          simp only [List.map_append, hKL, List.map_cons, List.map_nil, AObj.kill, sL, gL, List.isEmpty_cons, Bool.false_eq_true, if_false, List.length_map]
          refine ⟨⟨by simp [sizeOK], by omega⟩, size_str _, by omega, ⟨size_str [ws[i]], by omega⟩, size_str _, by omega, ⟨size_str _, one_str _⟩, ⟨by simp [sizeOK], by omega, by omega⟩, ⟨size_str [ws[i]], by omega⟩, ⟨size_str _, by omega⟩, ⟨size_str [ws[i]], one_str [ws[i]]⟩, ⟨hr1, .inl (by omega), by omega, by omega⟩, ⟨size_str _, by omega⟩, ⟨size_str _, one_str _⟩, ⟨by simp, .inl (by omega), trivial, trivial, by omega, by omega⟩, by simp only [InR]; omega,
            (i + 1, putAt l k ws[i], m + 1), ⟨⟨⟨by simp only [hHl], by simp only; omega⟩, by simp⟩, ?_⟩, ⟨by simp only; omega, by simp only; omega, hpl, hmem⟩, by simp only; omega⟩
          · show weakH _ (stO (m + 1) (putAt l k ws[i]))
            unfold stO
            rw [rkS_put, ← hH]
            have e3 : (putAt l k ws[i]).map PV.str = List.map PV.str (List.take k l) ++ [PV.str ws[i]] ++ List.map PV.str (List.drop k l) := by simp [putAt]
            rw [e3]
            refine weakH_snoc (.inr (.inl ?_)) H
            split <;> rfl
    · simp -implicitDefEqProofs only [hlt, hkl, getD_map_lt, ↓reduceIte, go_sem]
      have hup : k < l.length → ltW ws[i] (l.getD k []) := fun h => absurd h hkl
      refine AWp.planL (.q 0 (.q 1 (.q 2 (.q 3 (.q 5 (.q 6 (.q 7 (.q 8 (.q 9 (.q 11 (.q 12 (.q 13 (.e 4 (.s 5 (.s 6 (.s 7 (.s 8 (.s 9 (.s 11 (.s 12 (.s 13 (.e 10 (.s 11 (.s 12 (.s 13 (.e 14 (.q 15 .fin) .nil)))) .nil))))))))) .nil))))))))))))) hΓ hmix (by kernel_rfl) ?_
      simp -implicitDefEqProofs only [hlt, hkl, getD_map_lt, ↓reduceIte, gL, sL, hKL, go_sem]
      have hpl := putAt_strict hp hk hlow hup
      have hlen := putAt_len (w := ws[i]) hk
      have hmem : ∀ v, v ∈ putAt l k ws[i] ↔ v ∈ ws.take (i + 1) := fun v => by
        rw [mem_putAt, hm, List.take_succ_eq_append_getElem hlt, List.mem_append, List.mem_singleton]
      have ht : (l.take k).length = k := by simp; omega
      have hd : (l.drop k).length = l.length - k := by simp
      rw [← List.map_take, ← List.map_drop]
      generalize hrk : (if (List.map PV.str (List.take k l)).isEmpty = true then RK.lax else RK.own) = rk1
      have hr1 : rk1 ≠ .raw := by rw [← hrk]; split <;> simp
      simp only [List.map_append, hKL, List.map_cons, List.map_nil, AObj.kill, sL, gL, List.isEmpty_cons, Bool.false_eq_true, if_false, List.length_map]
      refine ⟨⟨by simp [sizeOK], by omega⟩, size_str _, by omega, ⟨size_str [ws[i]], by omega⟩, size_str _, by omega, ⟨size_str _, one_str _⟩, ⟨by simp [sizeOK], by omega, by omega⟩, ⟨size_str [ws[i]], by omega⟩, ⟨size_str _, by omega⟩, ⟨size_str [ws[i]], one_str [ws[i]]⟩, ⟨hr1, .inl (by omega), by omega, by omega⟩, ⟨size_str _, by omega⟩, ⟨size_str _, one_str _⟩, ⟨by simp, .inl (by omega), trivial, trivial, by omega, by omega⟩, by simp only [InR]; omega,
        (i + 1, putAt l k ws[i], m + 1), ⟨⟨⟨by simp only [hHl], by simp only; omega⟩, by simp⟩, ?_⟩, ⟨by simp only; omega, by simp only; omega, hpl, hmem⟩, by simp only; omega⟩
      · show weakH _ (stO (m + 1) (putAt l k ws[i]))
        unfold stO
        rw [rkS_put, ← hH]
        have e3 : (putAt l k ws[i]).map PV.str = List.map PV.str (List.take k l) ++ [PV.str ws[i]] ++ List.map PV.str (List.drop k l) := by simp [putAt]
        rw [e3]
        refine weakH_snoc (.inr (.inl ?_)) H
        split <;> rfl

theorem u50 (ws : List (List UInt8)) (hl : ws.length ≤ 1000000) : PFn Tryz.prog 132 [.sl (ws.map .str)] [.sl ((made ws).map .str)] := by
  by_cases hne : ws = []
  · subst hne
    refine PFn.of_body hΓ Tryz.func132 (by kernel_rfl) rfl (AWp.of_awpD [] hΓ hmix (by kernel_rfl) ?_)
    simp -implicitDefEqProofs only [Tryz.ntmps132, Tryz.results132, Nat.reduceAdd, Nat.reduceSub, List.map_nil, go_sem]
    refine AWp.loopI (fun _ : Nat => ⟨mkF 60 [(0, .p (.sl [])), (3, .full []), (4, .p (.int .i64 0))], []⟩) (fun _ => True) (fun _ => 0) 0 (by simp [go_sem]) trivial ?_
    intro k _
    refine AWp.of_awpD [(8, 15), (9, 1000)] hΓ hmix (by kernel_rfl) ?_
    have h00 : ((0 : Nat) : Int) = 0 := rfl
    simp -implicitDefEqProofs only [Int.lt_irrefl, List.length_nil, h00, go_sem]
    rw [show made [] = [] from made_of List.Pairwise.nil (fun x => Iff.rfl)]; rfl
  · exact .of_rowO (u50o ws hne hl)
end Go.Proofs.YtpljmccnfmkmfaaGreat
end

section
namespace Go.Proofs.YtpljmccnfmkmfaaGreat
open Go Go.AM Go.RowKit
set_option maxRecDepth 100000
set_option maxHeartbeats 4000000
set_option linter.unusedSimpArgs false

theorem r64 (q : Nat) (ws : List (List UInt8)) (hv : Valid q ws) : PFn Tryz.prog 65 [codeV q ws] [.sl ((missing q ws).map .str)] := by
  have hlen := hv.len
  have hq16 := hv.q16
  have hws := hv.words
  refine PFn.of_body hΓ Tryz.func65 (by kernel_rfl) rfl (AWp.seq (AWp.of_awpD [] hΓ hmix (by kernel_rfl) ?_))
  simp -implicitDefEqProofs only [Tryz.ntmps65, Tryz.results65, Nat.reduceAdd, Nat.reduceSub, codeV, go_sem]
  refine AWp.seq (AWp.of_awpD [] hΓ hmix (by kernel_rfl) ?_)
  simp -implicitDefEqProofs only [go_sem]
  refine AWp.adopt (l := []) 3 9 1 (by rfl) (by simp) ?_
  simp -implicitDefEqProofs only [go_sem]
  refine AWp.seq (AWp.of_awpD [] hΓ hmix (by kernel_rfl) ?_)
  simp -implicitDefEqProofs only [go_sem]
  refine AWp.loopI (fun i : Nat => ⟨mkF 52 [(1, .ptr 0 0), (3, .own 1 (missL q ws i).length), (4, .p (.int .i64 i))], [.box [.p (.int .i64 q), .p (.sl (ws.map .str))], .row 9 1 ((missL q ws i).map .str) .lax]⟩)
    (fun i => i ≤ ws.length) (fun i => ws.length - i) 0 (by simp [go_sem, missL]) (by omega) ?_
  intro i hi
  refine AWp.of_awpD [] hΓ hmix (by kernel_rfl) ?_
  by_cases hlt : i < ws.length
  · have hg : (ws.map PV.str).getD i default = .str ws[i] := getD_map_lt _ _ _ _ hlt
    obtain ⟨hw0, hw32, hwc⟩ := hws ws[i] (List.getElem_mem hlt)
    have hlL := missL_len (q := q) (ws := ws) (by omega) (fun x hx => (hws x hx).2.1) i (by omega)
    have hs0 := missL_succ (q := q) hlt
    simp -implicitDefEqProofs only [hlt, hg, Int.toNat_natCast, go_sem]
    generalize hwe : ws[i] = w at *
    refine AWp.loopI (fun n : Nat => ⟨mkF 52 [(1, .ptr 0 0), (3, .own 1 (missL q ws i ++ missW q ws w n).length), (4, .p (.int .i64 i)), (5, .p (.str w)), (6, .p (.int .i64 n))], [.box [.p (.int .i64 q), .p (.sl (ws.map .str))], .row 9 1 ((missL q ws i ++ missW q ws w n).map .str) .lax]⟩)
      (fun n => n ≤ w.length) (fun n => w.length - n) 0 (by simp [go_sem, missW]) (by omega) ?_
    intro n hn
    refine AWp.of_awpD [] hΓ hmix (by kernel_rfl) ?_
    by_cases hnlt : n < w.length
    · have hpl : (w.take n).length ≤ 32 := by rw [List.length_take]; omega
      have hmw := missW_len q ws w n
      have hmw2 : q * n ≤ 16 * 32 := Nat.mul_le_mul (by omega) (by omega)
      have hnext : missW q ws w (n + 1) = missW q ws w n ++ missP ws (w.take n) q := missW_succ q ws w n
      simp -implicitDefEqProofs only [hnlt, go_sem]
      generalize hpe : w.take n = p at *
      generalize hoe : missL q ws i ++ missW q ws w n = out at *
      have hol : out.length ≤ 512 * 64 + 512 := by rw [← hoe, List.length_append]; omega
      refine AWp.loopI (fun a : Nat => ⟨mkF 52 [(1, .ptr 0 0), (3, .own 1 (out ++ missP ws p a).length), (4, .p (.int .i64 i)), (5, .p (.str w)), (6, .p (.int .i64 n)), (7, .p (.int .i64 a))], [.box [.p (.int .i64 q), .p (.sl (ws.map .str))], .row 9 1 ((out ++ missP ws p a).map .str) .lax]⟩)
        (fun a => a ≤ q) (fun a => q - a) 0 (by simp [go_sem, missP]) (by omega) ?_
      intro a ha
      refine AWp.of_awpD [(12, 9)] hΓ hmix (by kernel_rfl) ?_
      have hPl := missP_len ws p a
      by_cases hlta : a < q
      · have h1 : ((a : Int) + 1).toNat - a = 1 := by omega
        have h16 : a < 16 := by omega
        have e87 := p87 ws (p ++ [letA a]) (by omega)
        have hsuc := missP_succ ws p a
        have hs1 : sizeOK [PV.str (p ++ [letA a])] 1 := by simp [sizeOK, PV.cells]
        have ho1 : oneOK [PV.str (p ++ [letA a])] := by simp [oneOK, PV.cells, PV.isAgg]
        simp -implicitDefEqProofs only [hlta, Int.toNat_natCast, h1, sub_letters h16, hpe, go_sem]
        refine ⟨by omega, by simp only [InR]; omega, ⟨by omega, by omega⟩, by omega, callK_fn e87 (.pures rfl) ?_⟩
        cases hb : ws.any fun x => (p ++ [letA a]).isPrefixOf x
        · have hm : missA ws p a = [p ++ [letA a]] := by unfold missA begB; rw [hb]; rfl
          rw [hm] at hsuc
          simp -implicitDefEqProofs only [go_sem]
          refine ⟨⟨hs1, by omega⟩, ⟨hs1, ho1⟩, ⟨.inl (by omega), by rw [List.length_append]; omega, by rw [List.length_append]; omega⟩, by simp only [InR]; omega, a + 1, ?_, by omega, by omega⟩
          rw [hsuc, ← List.append_assoc]
          simp
          omega
        · have hm : missA ws p a = [] := by unfold missA begB; rw [hb]; rfl
          rw [hm, List.append_nil] at hsuc
          simp -implicitDefEqProofs only [go_sem]
          exact ⟨by simp only [InR]; omega, a + 1, by rw [hsuc]; simp, by omega, by omega⟩
      · have haq : a = q := by omega
        subst haq
        simp -implicitDefEqProofs only [Int.lt_irrefl, Nat.lt_irrefl, go_sem]
        refine ⟨by simp only [InR]; omega, n + 1, ?_, by omega, by omega⟩
        rw [hnext, ← List.append_assoc, hoe]
        simp
    · have hnw : n = w.length := by omega
      subst hnw
      simp -implicitDefEqProofs only [Int.lt_irrefl, Nat.lt_irrefl, go_sem]
      exact ⟨by simp only [InR]; omega, i + 1, by rw [hs0]; simp, hlt, by omega⟩
  have hiw : i = ws.length := by omega
  subst hiw
  simp -implicitDefEqProofs only [Int.lt_irrefl, Nat.lt_irrefl, go_sem]
  have hlL := missL_len (q := q) (ws := ws) (by omega) (fun x hx => (hws x hx).2.1) ws.length (Nat.le_refl _)
  unfold missing
  generalize missL q ws ws.length = out at *
  refine AWp.freeze 1 rfl ?_
  refine AWp.of_awpD [] hΓ hmix (by kernel_rfl) ?_
  simp -implicitDefEqProofs only [Frozen, go_sem]
  refine callK_fn (u50 out (by omega)) (.pures rfl) ?_
  simp -implicitDefEqProofs only [go_sem]

theorem r64o (q : Nat) (ws : List (List UInt8)) (hv : Valid q ws) (hne : missing q ws ≠ []) : PRowO Tryz.prog 65 [codeV q ws] 9 1 ((missing q ws).map .str) := by
  have hlen := hv.len
  have hq16 := hv.q16
  have hws := hv.words
  refine AC.of_body 3 hΓ Tryz.func65 (by kernel_rfl) rfl (by simp) (AWp.seq (AWp.of_awpD [] hΓ hmix (by kernel_rfl) ?_))
  simp -implicitDefEqProofs only [Tryz.ntmps65, Tryz.results65, Nat.reduceAdd, Nat.reduceSub, codeV, List.map_cons, List.map_nil, go_sem]
  refine AWp.seq (AWp.of_awpD [] hΓ hmix (by kernel_rfl) ?_)
  simp -implicitDefEqProofs only [go_sem]
  refine AWp.adopt (l := []) 3 9 1 (by rfl) (by simp) ?_
  simp -implicitDefEqProofs only [go_sem]
  refine AWp.seq (AWp.of_awpD [] hΓ hmix (by kernel_rfl) ?_)
  simp -implicitDefEqProofs only [go_sem]
  refine AWp.loopI (fun i : Nat => ⟨mkF 52 [(1, .ptr 0 0), (3, .own 1 (missL q ws i).length), (4, .p (.int .i64 i))], [.box [.p (.int .i64 q), .p (.sl (ws.map .str))], .row 9 1 ((missL q ws i).map .str) .lax]⟩)
    (fun i => i ≤ ws.length) (fun i => ws.length - i) 0 (by simp [go_sem, missL]) (by omega) ?_
  intro i hi
  refine AWp.of_awpD [] hΓ hmix (by kernel_rfl) ?_
  by_cases hlt : i < ws.length
  · have hg : (ws.map PV.str).getD i default = .str ws[i] := getD_map_lt _ _ _ _ hlt
    obtain ⟨hw0, hw32, hwc⟩ := hws ws[i] (List.getElem_mem hlt)
    have hlL := missL_len (q := q) (ws := ws) (by omega) (fun x hx => (hws x hx).2.1) i (by omega)
    have hs0 := missL_succ (q := q) hlt
    simp -implicitDefEqProofs only [hlt, hg, Int.toNat_natCast, go_sem]
    generalize hwe : ws[i] = w at *
    refine AWp.loopI (fun n : Nat => ⟨mkF 52 [(1, .ptr 0 0), (3, .own 1 (missL q ws i ++ missW q ws w n).length), (4, .p (.int .i64 i)), (5, .p (.str w)), (6, .p (.int .i64 n))], [.box [.p (.int .i64 q), .p (.sl (ws.map .str))], .row 9 1 ((missL q ws i ++ missW q ws w n).map .str) .lax]⟩)
      (fun n => n ≤ w.length) (fun n => w.length - n) 0 (by simp [go_sem, missW]) (by omega) ?_
    intro n hn
    refine AWp.of_awpD [] hΓ hmix (by kernel_rfl) ?_
    by_cases hnlt : n < w.length
    · have hpl : (w.take n).length ≤ 32 := by rw [List.length_take]; omega
      have hmw := missW_len q ws w n
      have hmw2 : q * n ≤ 16 * 32 := Nat.mul_le_mul (by omega) (by omega)
      have hnext : missW q ws w (n + 1) = missW q ws w n ++ missP ws (w.take n) q := missW_succ q ws w n
      simp -implicitDefEqProofs only [hnlt, go_sem]
      generalize hpe : w.take n = p at *
      generalize hoe : missL q ws i ++ missW q ws w n = out at *
      have hol : out.length ≤ 512 * 64 + 512 := by rw [← hoe, List.length_append]; omega
      refine AWp.loopI (fun a : Nat => ⟨mkF 52 [(1, .ptr 0 0), (3, .own 1 (out ++ missP ws p a).length), (4, .p (.int .i64 i)), (5, .p (.str w)), (6, .p (.int .i64 n)), (7, .p (.int .i64 a))], [.box [.p (.int .i64 q), .p (.sl (ws.map .str))], .row 9 1 ((out ++ missP ws p a).map .str) .lax]⟩)
        (fun a => a ≤ q) (fun a => q - a) 0 (by simp [go_sem, missP]) (by omega) ?_
      intro a ha
      refine AWp.of_awpD [(12, 9)] hΓ hmix (by kernel_rfl) ?_
      have hPl := missP_len ws p a
      by_cases hlta : a < q
      · have h1 : ((a : Int) + 1).toNat - a = 1 := by omega
        have h16 : a < 16 := by omega
        have e87 := p87 ws (p ++ [letA a]) (by omega)
        have hsuc := missP_succ ws p a
        have hs1 : sizeOK [PV.str (p ++ [letA a])] 1 := by simp [sizeOK, PV.cells]
        have ho1 : oneOK [PV.str (p ++ [letA a])] := by simp [oneOK, PV.cells, PV.isAgg]
        simp -implicitDefEqProofs only [hlta, Int.toNat_natCast, h1, sub_letters h16, hpe, go_sem]
        refine ⟨by omega, by simp only [InR]; omega, ⟨by omega, by omega⟩, by omega, callK_fn e87 (.pures rfl) ?_⟩
        cases hb : ws.any fun x => (p ++ [letA a]).isPrefixOf x
        · have hm : missA ws p a = [p ++ [letA a]] := by unfold missA begB; rw [hb]; rfl
          rw [hm] at hsuc
          simp -implicitDefEqProofs only [go_sem]
          refine ⟨⟨hs1, by omega⟩, ⟨hs1, ho1⟩, ⟨.inl (by omega), by rw [List.length_append]; omega, by rw [List.length_append]; omega⟩, by simp only [InR]; omega, a + 1, ?_, by omega, by omega⟩
          rw [hsuc, ← List.append_assoc]
          simp
          omega
        · have hm : missA ws p a = [] := by unfold missA begB; rw [hb]; rfl
          rw [hm, List.append_nil] at hsuc
          simp -implicitDefEqProofs only [go_sem]
          exact ⟨by simp only [InR]; omega, a + 1, by rw [hsuc]; simp, by omega, by omega⟩
      · have haq : a = q := by omega
        subst haq
        simp -implicitDefEqProofs only [Int.lt_irrefl, Nat.lt_irrefl, go_sem]
        refine ⟨by simp only [InR]; omega, n + 1, ?_, by omega, by omega⟩
        rw [hnext, ← List.append_assoc, hoe]
        simp
    · have hnw : n = w.length := by omega
      subst hnw
      simp -implicitDefEqProofs only [Int.lt_irrefl, Nat.lt_irrefl, go_sem]
      exact ⟨by simp only [InR]; omega, i + 1, by rw [hs0]; simp, hlt, by omega⟩
  have hiw : i = ws.length := by omega
  subst hiw
  simp -implicitDefEqProofs only [Int.lt_irrefl, Nat.lt_irrefl, go_sem]
  have hlL := missL_len (q := q) (ws := ws) (by omega) (fun x hx => (hws x hx).2.1) ws.length (Nat.le_refl _)
  unfold missing at hne ⊢
  generalize missL q ws ws.length = out at *
  have hon : out ≠ [] := fun h => hne (by rw [h]; exact made_of List.Pairwise.nil (fun x => Iff.rfl))
  refine AWp.freeze 1 rfl ?_
  refine AWp.of_awpD [] hΓ hmix (by kernel_rfl) ?_
  simp -implicitDefEqProofs only [Frozen, go_sem]
  refine callK_ac (AC.of_rowO (u50o out hon (by omega)) (.inl rfl)) (by simp) ?_
  rintro v h' ⟨rfl, rfl⟩
  simp -implicitDefEqProofs only [killAll, List.foldl, List.length_map, List.length_cons, List.length_nil, go_sem]
  exact ⟨rfl, 2, rfl, rfl⟩

theorem r19 (q : Int) (ws : List (List UInt8)) : PFn Tryz.prog 15 [codeV q ws] [.sl ((missV q ws).map .str), .int .i64 (chE q ws)] := by
  have e63 := p63 q ws
  refine PFn.of_body hΓ Tryz.func15 (by kernel_rfl) rfl (AWp.of_awpD [] hΓ hmix (by kernel_rfl) ?_)
  simp -implicitDefEqProofs only [Tryz.ntmps15, Tryz.results15, Nat.reduceAdd, Nat.reduceSub, codeV, go_sem]
  unfold codeV at e63
  refine callK_fn e63 (.still rfl) ?_
  unfold missV
  by_cases hc : chE q ws = 0
  · obtain ⟨hv, _⟩ := chE_valid hc
    have hq : ((q.toNat : Nat) : Int) = q := by have := hv.q2; omega
    have e64 := r64 q.toNat ws (by rw [hq]; exact hv)
    rw [hq] at e64
    unfold codeV at e64
    rw [hc]
    simp -implicitDefEqProofs only [go_sem]
    refine callK_fn e64 (.still rfl) ?_
    simp -implicitDefEqProofs only [go_sem]
  · simp -implicitDefEqProofs only [hc, List.map_nil, go_sem]
end Go.Proofs.YtpljmccnfmkmfaaGreat
end

section
namespace Go.Proofs.YtpljmccnfmkmfaaGreat
open Go Go.AM
set_option maxRecDepth 100000
set_option linter.unusedSimpArgs false

theorem t11 (q : Int) (ws : List (List UInt8)) (hl : ws.length ≤ 9223372036854775807) : PFn Tryz.prog 12 [codeV q ws] [.bool (greatC ws || ws.any greatW)] := by
  refine PFn.of_body hΓ Tryz.func12 (by kernel_rfl) rfl (AWp.of_awpD [] hΓ hmix (by kernel_rfl) ?_)
  have big : ∀ b, (8 < ws.length ∧ ws.length ≤ 64 ∨ 65 < ws.length) → true = (greatC ws || b) := fun b h => by
    have : greatC ws = true := by simp only [greatC, Bool.or_eq_true, Bool.and_eq_true, decide_eq_true_eq]; exact h
    rw [this]; rfl
  have small : ¬ (8 < ws.length ∧ ws.length ≤ 64 ∨ 65 < ws.length) → greatC ws = false := fun h => by
    simp only [greatC, Bool.or_eq_false_iff, Bool.and_eq_false_iff, decide_eq_false_iff_not]; omega
  have hc : ((8 : Int) < ws.length ∧ (ws.length : Int) ≤ 64) ∨ ((8 : Int) < ws.length ∧ ¬ (ws.length : Int) ≤ 64 ∧ (65 : Int) < ws.length) ∨ ((8 : Int) < ws.length ∧ ¬ (ws.length : Int) ≤ 64 ∧ ¬ (65 : Int) < ws.length) ∨ (¬ (8 : Int) < ws.length ∧ ¬ (65 : Int) < ws.length) := by omega
  rcases hc with ⟨h1, h2⟩ | ⟨h1, h2, h3⟩ | hc
  · simp -implicitDefEqProofs only [Tryz.ntmps12, Tryz.results12, Nat.reduceSub, codeV, h1, h2, go_sem]
    exact big _ (by omega)
  · simp -implicitDefEqProofs only [Tryz.ntmps12, Tryz.results12, Nat.reduceSub, codeV, h1, h2, h3, go_sem]
    exact big _ (by omega)
  have hsm := small (by omega)
  rw [hsm]
  rcases hc with ⟨h1, h2, h3⟩ | ⟨h1, h2⟩
  simp -implicitDefEqProofs only [Tryz.ntmps12, Tryz.results12, Nat.reduceSub, codeV, h1, h2, h3, go_sem]
  rotate_left
  simp -implicitDefEqProofs only [Tryz.ntmps12, Tryz.results12, Nat.reduceSub, codeV, h1, h2, go_sem]
  all_goals (
    clear big small hsm
    refine AWp.loopI (fun k : Nat => ⟨mkF 52 [(1, .ptr 0 0), (2, .p (.bool false)), (3, .p (.int .i64 k))], [codeB q ws]⟩)
      (fun k => k ≤ ws.length ∧ (ws.take k).any greatW = false) (fun k => ws.length - k) 0 (by simp [go_sem, codeB]) (by simp) ?_
    rintro k ⟨hk, hno⟩
    refine AWp.of_awpD [] hΓ hmix (by kernel_rfl) ?_
    simp +contextual -implicitDefEqProofs only [go_sem, getD_map_lt, ↓reduceIte, codeB]
    have key : ∀ h : k < ws.length, greatW ws[k] = true → ws.any greatW = true := fun h h' => List.any_eq_true.2 ⟨_, List.getElem_mem h, h'⟩
    have step : ∀ h : k < ws.length, greatW ws[k] = false → InR IntKind.i64 (↑k + 1) ∧ ∃ y : Nat, (↑y : Int) = ↑k + 1 ∧ (y ≤ ws.length ∧ (List.take y ws).any greatW = false) ∧ ws.length - y < ws.length - k := fun h h' =>
      ⟨by simp only [InR]; omega, k + 1, by simp, ⟨h, by rw [List.take_succ_eq_append_getElem h, List.any_append, hno]; simp [h']⟩, by omega⟩
    have yes : ∀ (h : k < ws.length), greatW ws[k] = true → true = (false || ws.any greatW) := fun h h' => by rw [key h h']; rfl
    have fin : ¬ k < ws.length → ws.any greatW = false := fun h => by rw [List.take_of_length_le (by omega)] at hno; exact hno
    refine ⟨fun h => ⟨fun h1 => ⟨fun h2 => yes h ?_, fun h2 => ⟨fun h3 => yes h ?_, fun h3 => step h ?_⟩⟩, fun h1 => ⟨fun h3 => yes h ?_, fun h3 => step h ?_⟩⟩, fun h => ?_⟩
    · simp only [greatW, Bool.or_eq_true, Bool.and_eq_true, decide_eq_true_eq]; omega
    · simp only [greatW, Bool.or_eq_true, Bool.and_eq_true, decide_eq_true_eq]; omega
    · simp only [greatW, Bool.or_eq_false_iff, Bool.and_eq_false_iff, decide_eq_false_iff_not]; omega
    · simp only [greatW, Bool.or_eq_true, Bool.and_eq_true, decide_eq_true_eq]; omega
    · simp only [greatW, Bool.or_eq_false_iff, Bool.and_eq_false_iff, decide_eq_false_iff_not]; omega
    · rw [fin h]; rfl)
theorem u14 (q : Int) (ws : List (List UInt8)) (hl : ws.length ≤ 1000000) : PFn Tryz.prog 134 [.int .i64 q, .sl (ws.map .str)] [if codeCheck q (made ws) = 0 then codeV q (made ws) else codeV 0 [], .int .i64 (codeCheck q (made ws))] := by
  refine PFn.of_body hΓ Tryz.func134 (by kernel_rfl) rfl (AWp.of_awpD [] hΓ hmix (by kernel_rfl) ?_)
  simp +contextual -implicitDefEqProofs only [codeV, Tryz.ntmps134, Tryz.results134, Nat.reduceAdd, Nat.reduceSub, go_sem]
  refine callK_fn (u50 ws hl) (.pures rfl) ?_
  simp -implicitDefEqProofs only [go_sem]
  refine ⟨by omega, ?_⟩
  refine callK_fn (t44 q (made ws)) (.still rfl) ?_
  by_cases hc : codeCheck q (made ws) = 0
  · rw [hc]
    simp -implicitDefEqProofs only [go_sem]
  · simp -implicitDefEqProofs only [hc, go_sem]
end Go.Proofs.YtpljmccnfmkmfaaGreat
end

section
namespace Go.Proofs.YtpljmccnfmkmfaaGreat
open Go Go.AM Go.RowKit
set_option maxRecDepth 100000
set_option maxHeartbeats 4000000
set_option linter.unusedSimpArgs false

theorem r67 (q : Int) (ws l : List (List UInt8)) (h1 : ws.length ≤ 100000) (h2 : l.length ≤ 100000) : PFn Tryz.prog 67 [codeV q ws, .sl (l.map .str)] [makeV q (ws ++ l), .int .i64 (codeCheck q (made (ws ++ l)))] := by
  have e88 := u14 q (ws ++ l) (by rw [List.length_append]; omega)
  rw [← makeV] at e88
  obtain ⟨p, us, hpu, _⟩ := makeV_code q (ws ++ l)
  rw [hpu] at e88 ⊢
  refine PFn.of_body hΓ Tryz.func67 (by kernel_rfl) rfl (AWp.seq (AWp.of_awpD [] hΓ hmix (by kernel_rfl) ?_))
  simp -implicitDefEqProofs only [Tryz.ntmps67, Tryz.results67, Nat.reduceAdd, Nat.reduceSub, codeV, go_sem]
  refine AWp.seq ?_
  refine AWp.planL (.q 0 (.q 1 (.q 2 (.q 3 (.q 4 (.q 6 (.e 5 (.s 0 (.s 1 (.s 6 (.e 7 (.s 0 (.s 1 (.e 8 (.q 9 (.q 10 (.e 11 (.q 12 .fin) .nil))) .nil))) .nil)))) .nil))))))) hΓ hmix (by kernel_rfl) ?_
  simp -implicitDefEqProofs only [go_sem]
  refine ⟨⟨size_str [], by omega⟩, ⟨size_str _, one_str _⟩, ⟨size_str [], by omega, by omega⟩, ⟨size_str _, one_str _⟩, ⟨by split <;> simp, by simp, by omega, by omega⟩, ?_⟩
  unfold codeV at e88
  refine callK_give 2 e88 rfl (by simp [AV.thaw, AV.purL, AV.pur, AV.pur1]) ?_
  simp -implicitDefEqProofs only [AObj.thaw, AV.thaw, AV.thaw.thawL, List.map_cons, List.map_nil, List.set_cons_zero, List.set_cons_succ, go_sem]
  refine AWp.of_awpD [] hΓ hmix (by kernel_rfl) ?_
  simp -implicitDefEqProofs only [go_sem]

theorem r21 (q : Int) (ws : List (List UInt8)) : PFn Tryz.prog 17 [codeV q ws] [compV q ws, .int .i64 (compE q ws)] := by
  have e63 := p63 q ws
  unfold compV compE
  refine PFn.of_body hΓ Tryz.func17 (by kernel_rfl) rfl (AWp.of_awpD [(4, 6)] hΓ hmix (by kernel_rfl) ?_)
  simp -implicitDefEqProofs only [Tryz.ntmps17, Tryz.results17, Nat.reduceAdd, Nat.reduceSub, codeV, go_sem]
  unfold codeV at e63
  refine callK_fn e63 (.still rfl) ?_
  by_cases hc : chE q ws = 0
  · obtain ⟨hv, _⟩ := chE_valid hc
    have hl := missV_len hv
    have hlen := hv.len
    have hq : ((q.toNat : Nat) : Int) = q := by have := hv.q2; omega
    have e64 := r64 q.toNat ws (by rw [hq]; exact hv)
    rw [hq, show missing q.toNat ws = missV q ws by unfold missV; rw [if_pos hc]] at e64
    have e67 := r67 q ws (missV q ws) (by omega) (by omega)
    obtain ⟨p, us, hpu, _⟩ := makeV_code q (ws ++ missV q ws)
    rw [hpu] at e67
    unfold codeV at e64 e67
    rw [hc, if_neg (by simp), if_neg (by simp), hpu]
    simp -implicitDefEqProofs only [go_sem]
    refine callVPK_fn e64 (.still rfl) ?_
    simp -implicitDefEqProofs only [go_sem]
    refine callVPK_fn e67 (.still rfl) ?_
    simp -implicitDefEqProofs only [codeV, go_sem]
  · rw [if_pos hc, if_pos hc]
    simp -implicitDefEqProofs only [hc, codeV, List.map_nil, go_sem]
end Go.Proofs.YtpljmccnfmkmfaaGreat
end

section
namespace Go.Proofs.YtpljmccnfmkmfaaGreat
open Go Go.AM Go.RowKit
set_option maxRecDepth 100000
set_option maxHeartbeats 4000000
set_option linter.unusedSimpArgs false

theorem chl_succ (a : Nat) (w : List UInt8) : chl (a + 1) w = chl a w ++ [w ++ [letA a]] := by unfold chl; rw [List.range_succ, List.map_append]; rfl
theorem chl_len (a : Nat) (w : List UInt8) : (chl a w).length = a := by unfold chl; simp
theorem made_same {l m : List (List UInt8)} (h : l.Perm m) : made l = made m := (made_of (made_strict m) (fun x => by rw [mem_made]; exact h.mem_iff))

theorem q19 (q : Int) (ws : List (List UInt8)) (n : Int) : PFn Tryz.prog 19 [codeV q ws, .int .i64 n] [embV q ws n, .int .i64 (embE q ws n)] := by
  have e63 := p63 q ws
  unfold codeV at e63
  refine PFn.of_body hΓ Tryz.func19 (by kernel_rfl) rfl (AWp.seq (AWp.of_awpD [] hΓ hmix (by kernel_rfl) ?_))
  simp -implicitDefEqProofs only [Tryz.ntmps19, Tryz.results19, Nat.reduceAdd, Nat.reduceSub, codeV, go_sem]
  refine AWp.seq (AWp.of_awpD [] hΓ hmix (by kernel_rfl) ?_)
  simp -implicitDefEqProofs only [go_sem]
  refine callK_fn e63 (.still rfl) ?_
  unfold embV embE
  by_cases hc : chE q ws = 0
  rotate_left
  · rw [if_pos hc, if_pos hc]
    simp -implicitDefEqProofs only [hc, codeV, List.map_nil, go_sem]
  rw [hc, if_neg (c := (0 : Int) ≠ 0) (by simp), if_neg (c := (0 : Int) ≠ 0) (by simp)]
  simp -implicitDefEqProofs only [go_sem]
  refine AWp.seq (AWp.of_awpD [] hΓ hmix (by kernel_rfl) ?_)
  by_cases hb : n < 1 ∨ 32 < n
  · rw [if_pos hb, if_pos hb]
    by_cases hb1 : n < 1
    · simp -implicitDefEqProofs only [hb1, codeV, List.map_nil, go_sem]
    · have hb2 := hb.resolve_left hb1
      simp -implicitDefEqProofs only [hb1, hb2, codeV, List.map_nil, go_sem]
  rw [if_neg hb, if_neg hb]
  have hb1 : ¬ n < 1 := fun h => hb (.inl h)
  have hb2 : ¬ 32 < n := fun h => hb (.inr h)
  simp -implicitDefEqProofs only [hb1, hb2, go_sem]
  obtain ⟨hv, hp⟩ := chE_valid hc
  have hlen := hv.len
  have hpos := hv.pos
  have h2 := hv.q2
  have h16 := hv.q16
  obtain ⟨p, rfl⟩ : ∃ p : Nat, q = p := ⟨q.toNat, by omega⟩
  obtain ⟨m, rfl⟩ : ∃ m : Nat, n = m := ⟨n.toNat, by omega⟩
  rw [Int.toNat_natCast, Int.toNat_natCast]
  have hcp := pcode_of hv hp
  rw [Int.toNat_natCast] at hcp
  have hMm : ∀ w ∈ missing p ws, w.length ≤ 32 := fun w hw => (miss_short hcp (mem_missing.1 hw)).1
  have hMl : (missing p ws).length ≤ 32768 := by
    have h1 := made_le (missL p ws ws.length)
    have h2 := missL_len (q := p) (ws := ws) (by omega) (fun x hx => (hv.words x hx).2.1) ws.length (Nat.le_refl _)
    unfold missing
    omega
  have hE : embL p ws m = remE p m (missing p ws) := rfl
  have e64 := r64 p ws hv
  have e64o := r64o p ws hv
  rw [hE]
  generalize missing p ws = M at *
  refine AWp.seq (AWp.of_awpD [] hΓ hmix (by kernel_rfl) ?_)
  simp -implicitDefEqProofs only [go_sem]
  refine AWp.adopt (l := []) 7 9 1 (by rfl) (by simp) ?_
  simp -implicitDefEqProofs only [go_sem]
  by_cases hM0 : M = []
  · subst hM0
    have hno : ¬ 64 < ws.length + (remE p m ([] : List (List UInt8))).length := by rw [remE_nil]; simp; omega
    rw [if_neg hno, if_neg hno, remE_nil, List.append_nil]
    have e67 := r67 (p : Int) ws [] (by omega) (by simp)
    rw [List.append_nil] at e67
    obtain ⟨p1, us, hpu, _⟩ := makeV_code (p : Int) ws
    rw [hpu] at e67 ⊢
    unfold codeV at e64 e67
    refine AWp.seq (AWp.seq (AWp.of_awpD [] hΓ hmix (by kernel_rfl) ?_))
    simp -implicitDefEqProofs only [go_sem]
    refine callK_fn e64 (.still rfl) ?_
    simp -implicitDefEqProofs only [go_sem]
    refine AWp.block ?_
    refine AWp.loopI (fun _ : Nat => ⟨mkF 76 [(2, .ptr 0 0), (4, .ptr 1 0), (7, .own 2 0), (8, .p (.sl []))], [.box [.p (.int .i64 p), .p (.sl (ws.map .str))], .box [.p (.int .i64 0), .full []], .row 9 1 [] .lax]⟩) (fun _ => True) (fun _ => 0) 0 (by simp [go_sem]) trivial ?_
    intro _ _
    refine AWp.of_awpD [(15, 1000)] hΓ hmix (by kernel_rfl) ?_
    have h00 : ((0 : Nat) : Int) = 0 := rfl
    simp -implicitDefEqProofs only [Int.lt_irrefl, List.length_nil, h00, go_sem]
    refine AWp.of_awpD [] hΓ hmix (by kernel_rfl) ?_
    simp -implicitDefEqProofs only [go_sem]
    refine callK_give 2 e67 rfl (by simp [AV.thaw, AV.thaw.thawL, AV.purL, AV.purL1, AV.pur, AV.pur1]) ?_
    simp -implicitDefEqProofs only [AObj.thaw, AV.thaw, AV.thaw.thawL, List.map_cons, List.map_nil, List.set_cons_zero, List.set_cons_succ, codeV, go_sem]
  have e64 := e64o hM0
  clear e64o
  unfold codeV at e64
  refine AWp.seq (AWp.seq (AWp.of_awpD [] hΓ hmix (by kernel_rfl) ?_))
  simp -implicitDefEqProofs only [go_sem]
  refine callK_ac (AC.of_rowO e64 (.inr rfl)) (by simp) ?_
  rintro v h' ⟨rfl, rfl⟩
  simp -implicitDefEqProofs only [killAll, List.foldl, List.length_map, List.length_cons, List.length_nil, go_sem]
  refine AWp.block ?_
  obtain ⟨E, hEe⟩ : ∃ E, E = remE p m M := ⟨_, rfl⟩
  rw [← hEe]
  have hp1 : 1 ≤ p := by omega
  refine AWp.loopJ (fun x : List (List UInt8) × List (List UInt8) => ⟨mkF 76 [(1, .p (.int .i64 m)), (2, .ptr 0 0), (4, .ptr 1 0), (5, .p (.int .i64 0)), (7, .own 2 x.1.length), (8, .own 3 x.2.length)],
      [.box [.p (.int .i64 p), .p (.sl (ws.map .str))], .box [.p (.int .i64 0), .full []], .row 9 1 (x.1.map .str) .lax, .row 9 1 (x.2.map .str) .que]⟩)
    (fun x => (x.1 ++ remE p m x.2).Perm E ∧ ((x.1 = [] ∧ x.2 = M) ∨ x.1.length + x.2.length + ws.length ≤ 64) ∧ (∀ w ∈ x.2, w.length ≤ 32) ∧ ∀ w ∈ x.1, w.length ≤ 32) (fun x => mu m x.2) ([], M)
    (fun x => by simp [BelowAll, mkF, AV.blw, AV.blw.blwL, blwH, AObj.blw]) (by simp [go_sem]) ⟨by rw [hEe]; simp, .inl ⟨rfl, rfl⟩, hMm, by simp⟩ ?_
  rintro ⟨out, l⟩ ⟨hperm, hb64, hl32, ho32⟩
  simp only at hperm hb64 hl32 ho32
  have hsz : out.length + l.length ≤ 40000 := by
    rcases hb64 with ⟨rfl, rfl⟩ | h
    · simp; omega
    · omega
  simp -implicitDefEqProofs only [go_sem]
  refine AWp.of_awpD [(15, 1000)] hΓ hmix (by kernel_rfl) ?_
  match l, hperm, hb64, hl32, hsz with
  | [], hperm, hb64, _, hsz =>
    rw [remE_nil, List.append_nil] at hperm
    have hEl := hperm.length_eq
    have hno : ¬ 64 < ws.length + E.length := by
      rcases hb64 with ⟨h1, h2⟩ | h
      · exact absurd h2.symm hM0
      · simp at h; omega
    rw [if_neg hno, if_neg hno]
    have hmk : makeV (p : Int) (ws ++ E) = makeV (p : Int) (ws ++ out) := by unfold makeV; rw [made_same (hperm.symm.append_left ws)]
    have hcc : codeCheck (p : Int) (made (ws ++ E)) = codeCheck (p : Int) (made (ws ++ out)) := by rw [made_same (hperm.symm.append_left ws)]
    rw [hmk, hcc]
    have e67 := r67 (p : Int) ws out (by omega) (by omega)
    obtain ⟨p1, us, hpu, _⟩ := makeV_code (p : Int) (ws ++ out)
    rw [hpu] at e67 ⊢
    unfold codeV at e67
    have h00 : ((0 : Nat) : Int) = 0 := rfl
    simp -implicitDefEqProofs only [Int.lt_irrefl, List.length_nil, h00, go_sem]
    refine AWp.of_awpD [] hΓ hmix (by kernel_rfl) ?_
    simp -implicitDefEqProofs only [go_sem]
    refine callK_give 2 e67 rfl (by simp [AV.thaw, AV.thaw.thawL, AV.purL, AV.purL1, AV.pur, AV.pur1]) ?_
    simp -implicitDefEqProofs only [AObj.thaw, AV.thaw, AV.thaw.thawL, List.map_cons, List.map_nil, List.set_cons_zero, List.set_cons_succ, codeV, go_sem]
  | w :: rest, hperm, hb64, hl32, hsz =>
    have hw32 := hl32 w (by simp)
    have hlpos : (0 : Int) < ((rest.length + 1 : Nat) : Int) := by omega
    have hi0 : Int.toNat 0 < rest.length + 1 := by simp
    have hg0 : (PV.str w :: rest.map PV.str).getD (Int.toNat 0) default = .str w := rfl
    have hgr := rem_ge (q := p) (n := m) hp1 rest
    by_cases hwm : m ≤ w.length
    · have hwm' : (m : Int) ≤ (w.length : Int) := by omega
      rw [rem_full hwm] at hperm
      have hperm2 : ((out ++ [w]) ++ remE p m rest).Perm E := by rw [List.append_assoc]; exact hperm
      have hEl := hperm2.length_eq
      simp only [List.length_append, List.length_singleton] at hEl
      simp -implicitDefEqProofs only [hlpos, hg0, hi0, hwm', List.length_map, List.length_cons, List.map_cons, go_sem]
      have hsw : sizeOK [PV.str w] 1 := size_str [w]
      have how : oneOK [PV.str w] := one_str [w]
      have hl40 : out.length + rest.length ≤ 40000 := by simp at hsz; omega
      refine ⟨⟨hsw, by omega⟩, ⟨hsw, how⟩, ⟨.inl (by omega), by omega, by omega⟩, by simp only [InR]; omega, by simp only [InR]; omega, by simp only [InR]; omega, fun h => ?_, fun h => ⟨⟨.inl (by omega), by omega, by omega⟩, (out ++ [w], rest), ⟨⟨by simp, by simp⟩, .inr (.inl ?_), rfl⟩, ⟨hperm2, .inr ?_, fun x hx => hl32 x (by simp [hx]), fun x hx => ?_⟩, mu_pop m w rest⟩⟩
      · rw [if_pos (by omega), if_pos (by omega)]; exact ⟨rfl, rfl⟩
      · simp
      · simp only [List.length_append, List.length_singleton]; omega
      · rcases List.mem_append.1 hx with hx | hx
        · exact ho32 x hx
        · rw [List.mem_singleton.1 hx]; exact hw32
    · have hwm2 : w.length < m := by omega
      have hwm' : ¬ (m : Int) ≤ (w.length : Int) := by omega
      have hperm2 : (out ++ remE p m (rest ++ chl p w)).Perm E := ((rem_grow hwm2 rest).append_left out).trans hperm
      have hEl := hperm2.length_eq
      have hge2 := rem_ge (q := p) (n := m) hp1 (rest ++ chl p w)
      rw [List.length_append] at hEl
      rw [List.length_append, chl_len] at hge2
      have hl40 : out.length + rest.length ≤ 40000 := by simp at hsz; omega
      simp -implicitDefEqProofs only [hlpos, hg0, hi0, hwm', List.length_map, List.length_cons, List.map_cons, go_sem]
      refine AWp.loopJ (fun a : Nat => ⟨mkF 76 [(1, .p (.int .i64 m)), (2, .ptr 0 0), (4, .ptr 1 0), (5, .p (.int .i64 0)), (7, .own 2 out.length), (8, .own 3 (rest.length + 1 + a)), (9, .p (.int .i64 a))],
          [.box [.p (.int .i64 p), .p (.sl (ws.map .str))], .box [.p (.int .i64 0), .full []], .row 9 1 (out.map .str) .lax, .row 9 1 (PV.str w :: (rest ++ chl a w).map .str) .que]⟩)
        (fun a => a ≤ p) (fun a => p - a) 0 (fun x => by simp [BelowAll, mkF, AV.blw, AV.blw.blwL, blwH, AObj.blw]) (by simp [go_sem, chl]) (Nat.zero_le _) ?_
      intro a ha
      simp -implicitDefEqProofs only [go_sem]
      refine AWp.of_awpD [(15, 1000)] hΓ hmix (by kernel_rfl) ?_
      by_cases hap : a < p
      · have hap' : (a : Int) < (p : Int) := by omega
        have hg0a : (PV.str w :: (rest ++ chl a w).map PV.str).getD (Int.toNat 0) default = .str w := rfl
        have hlpa : (0 : Int) < ((rest.length + 1 + a : Nat) : Int) := by omega
        have hi0a : Int.toNat 0 < rest.length + 1 + a := by simp; omega
        have h1 : ((a : Int) + 1).toNat - a = 1 := by omega
        have h16a : a < 16 := by omega
        simp -implicitDefEqProofs only [hap', go_sem]
        refine AWp.planL (.q 0 (.q 1 (.q 2 (.q 3 (.q 4 (.q 5 (.q 6 (.q 7 (.q 8 (.q 9 (.e 10 (.q 11 .fin) .nil))))))))))) hΓ hmix (by kernel_rfl) ?_
        simp -implicitDefEqProofs only [hg0a, hlpa, hi0a, h1, sub_letters h16a, Int.toNat_natCast, List.length_map, go_sem]
        have hsx : sizeOK [PV.str (w ++ [letA a])] 1 := size_str [w ++ [letA a]]
        have hox : oneOK [PV.str (w ++ [letA a])] := one_str [w ++ [letA a]]
        refine ⟨by simp, by simp only [InR]; omega, ⟨by omega, by omega⟩, by omega, ⟨hsx, by omega⟩, ⟨hsx, hox⟩, ⟨.inl (by omega), by omega, by omega⟩, by simp only [InR]; omega, a + 1, ⟨⟨by omega, by omega⟩, .inr (.inr ?_)⟩, by omega, by omega⟩
        rw [chl_succ, ← List.append_assoc, List.map_append (l₂ := [w ++ [letA a]])]; rfl
      have hpa : p = a := by omega
      subst hpa
      simp -implicitDefEqProofs only [Int.lt_irrefl, go_sem]
      have hcl : (rest ++ chl p w).length = rest.length + p := by rw [List.length_append, chl_len]
      refine ⟨by simp only [InR]; omega, by simp only [InR]; omega, by simp only [InR]; omega, fun h => ?_, fun h => ⟨⟨.inl (by omega), by omega, by omega⟩, (out, rest ++ chl p w), ⟨⟨rfl, ?_⟩, rfl, rfl⟩, ⟨hperm2, .inr ?_, fun x hx => ?_, ho32⟩, mu_grow (by omega) hwm2 rest⟩⟩
      · rw [if_pos (by omega), if_pos (by omega)]; exact ⟨rfl, rfl⟩
      · show (rest ++ chl p w).length = rest.length + 1 + p - 1
        omega
      · show out.length + (rest ++ chl p w).length + ws.length ≤ 64
        omega
      · rcases List.mem_append.1 hx with hx | hx
        · exact hl32 x (by simp [hx])
        · unfold chl at hx
          obtain ⟨a, _, rfl⟩ := List.mem_map.1 hx
          rw [List.length_append, List.length_singleton]; omega
end Go.Proofs.YtpljmccnfmkmfaaGreat
end

section
namespace Go.Proofs.YtpljmccnfmkmfaaGreat
open Go Go.AM
set_option maxRecDepth 1000000
set_option linter.unusedSimpArgs false

def kn7 : FuncId → List PV → Option AV := fun f args => match f, args with
  | 47, [.int .i64 2, .sl [.int .i64 2, .int .i64 1, .int .i64 3]] => some (.tup [.p (.agg [.bool false, .str [7], .bool false, .str [8]]), .p (.int .i64 0)])
  | 72, [.agg [.bool false, .str [1]]] => some (.p (.agg [.bool false, .str [1], .bool false, .str [1]]))
  | 49, [.agg [.bool false, .str [7], .bool false, .str [8]], .agg [.bool false, .str [1], .bool false, .str [1]]] => some (.p (.int .i64 (-1)))
  | 61, [.agg [.int .i64 2, .sl [.str [48], .str [49, 48], .str [49, 49]]], .sl [.int .i64 0]] => some (.tup [.p (.agg [.int .i64 2, .sl [.str [49, 48], .str [49, 49]]]), .p (.int .i64 0)])
  | _, _ => none
def axA7 : FuncId → List AV → Option AV := fun f args => match f with
  | 47 => (AV.purL [] args).bind (kn7 47)
  | 49 => (AV.purL [] args).bind (kn7 49)
  | 72 => (AV.purL [] args).bind (kn7 72)
  | 61 => (AV.purL [] args).bind (kn7 61)
  | f => axT f args
def ptA7 : Plans := fun id n => match id, n with
  | 6, 18 => some (.q 0 (.q 1 (.q 2 (.q 3 (.q 4 (.q 5 (.q 6 (.q 7 (.q 8 (.q 9 (.q 10 (.q 11 (.q 12 (.q 13 (.q 14 (.e 15 (.s 2 (.s 3 (.s 4 (.q 16 (.e 17 .fin .nil))))) .nil))))))))))))))))
  | _, _ => none

theorem magB_one7 : magB 1 = [1] := by decide +kernel
theorem ratV_one7 : Kn.ratV 1 1 = .agg [.bool false, .str [1], .bool false, .str [1]] := by
  unfold Kn.ratV; rw [show Nat.gcd 1 1 = 1 by decide, Nat.div_one, magB_one7]
theorem ratV_seven7 : Kn.ratV 7 8 = .agg [.bool false, .str [7], .bool false, .str [8]] := by
  unfold Kn.ratV
  rw [show Nat.gcd 7 8 = 1 by decide, Nat.div_one, Nat.div_one, show magB 7 = [7] by decide +kernel, show magB 8 = [8] by decide +kernel]
theorem kraft_ex7 : PFn Tryz.prog 47 [.int .i64 2, .sl [.int .i64 2, .int .i64 1, .int .i64 3]] [.agg [.bool false, .str [7], .bool false, .str [8]], .int .i64 0] := by
  have e := Kn.v50 2 [2, 1, 3] (by decide) (by decide) (by decide) (by decide)
  have h : Kn.ratV (Kn.krS 2 [2, 1, 3]) (2 ^ 32) = .agg [.bool false, .str [7], .bool false, .str [8]] := by
    unfold Kn.ratV
    rw [show Kn.krS 2 [2, 1, 3] = 3758096384 by decide, show Nat.gcd 3758096384 (2 ^ 32) = 536870912 by decide]
    rw [show 3758096384 / 536870912 = 7 by decide, show 2 ^ 32 / 536870912 = 8 by decide]
    rw [show magB 7 = [7] by decide +kernel, show magB 8 = [8] by decide +kernel]
  rw [h] at e
  exact e
theorem cap_big7 : 100 < capN := Nat.lt_of_lt_of_le (by decide : 100 < 256 ^ 1) (Nat.pow_le_pow_right (by decide) (by decide))
theorem of_ex7 : PFn Tryz.prog 72 [.agg [.bool false, .str [1]]] [.agg [.bool false, .str [1], .bool false, .str [1]]] := by
  have e := Kn.v52 1 (by have := cap_big7; omega)
  rw [ratV_one7] at e
  unfold intN intV at e
  rw [magB_one7] at e
  exact e
theorem cmp_ex7 : PFn Tryz.prog 49 [.agg [.bool false, .str [7], .bool false, .str [8]], .agg [.bool false, .str [1], .bool false, .str [1]]] [.int .i64 (-1)] := by
  have hc := cap_big7
  have e := Kn.v51 7 8 1 1 (by omega) (by omega) (by omega) (by omega) (by omega) (by omega) (by omega) (by omega)
  rw [ratV_one7, ratV_seven7] at e
  exact e
theorem prune_ex7 : PFn Tryz.prog 61 [.agg [.int .i64 2, .sl [.str [48], .str [49, 48], .str [49, 49]]], .sl [.int .i64 0]] [.agg [.int .i64 2, .sl [.str [49, 48], .str [49, 49]]], .int .i64 0] := by
  have e := cm27 2 [[48], [49, 48], [49, 49]] [0] (by decide)
  have hm : made [[49, 48], [49, 49]] = [[49, 48], [49, 49]] := made_of (by unfold ltW; decide) (fun x => Iff.rfl)
  have hl : leftN [[48], [49, 48], [49, 49]] [0] 3 = [[49, 48], [49, 49]] := by decide
  have hp : pruneN [[49, 48], [49, 49]] 2 = [[49, 48], [49, 49]] := by decide
  have hE : pruneE 2 [[48], [49, 48], [49, 49]] [0] = 0 := by
    unfold pruneE
    rw [show ([[48], [49, 48], [49, 49]] : List (List UInt8)).length = 3 from rfl, hl, show ([[49, 48], [49, 49]] : List (List UInt8)).length = 2 from rfl, hp, hm]
    decide
  unfold pruneW at e
  rw [if_pos hE, hE, show ([[48], [49, 48], [49, 49]] : List (List UInt8)).length = 3 from rfl, hl, show ([[49, 48], [49, 49]] : List (List UInt8)).length = 2 from rfl, hp, hm] at e
  exact e

theorem bind_kn7 {args : List AV} {f : FuncId} {v : AV} (h : (AV.purL [] args).bind (kn7 f) = some v) : ∃ p, AV.purL [] args = some p ∧ kn7 f p = some v := Option.bind_eq_some_iff.1 h
theorem kn_ok7 : ∀ f p v, kn7 f p = some v → ∃ vs, PFn Tryz.prog f p vs ∧ v = packAV (vs.map .p) := by
  intro f p v h
  unfold kn7 at h
  split at h
  · injection h with h; exact ⟨_, kraft_ex7, h.symm⟩
  · injection h with h; exact ⟨_, of_ex7, h.symm⟩
  · injection h with h; exact ⟨_, cmp_ex7, h.symm⟩
  · injection h with h; exact ⟨_, prune_ex7, h.symm⟩
  · cases h
theorem axA_ok7 : ∀ f args v, axA7 f args = some v → AX Tryz.prog f args v ∨ ∀ h, AC Tryz.prog f args h [] (fun u h' => u = v ∧ h' = h) := by
  have go : ∀ f args v, (AV.purL [] args).bind (kn7 f) = some v → ∀ h, AC Tryz.prog f args h [] (fun u h' => u = v ∧ h' = h) := by
    intro f args v h
    obtain ⟨p, h1, h2⟩ := bind_kn7 h
    obtain ⟨vs, h3, h4⟩ := kn_ok7 f p v h2
    subst h4
    exact fun h => AC.of_fn h3 (.inr h1)
  intro f args v h
  unfold axA7 at h
  split at h
  · exact .inr (go _ _ _ h)
  · exact .inr (go _ _ _ h)
  · exact .inr (go _ _ _ h)
  · exact .inr (go _ _ _ h)
  · exact .inl (axT_ok _ _ _ h)

theorem hEA7 : ECOK ⟨Tryz.prog, Γ, axA7⟩ := ⟨hΓ, hmix, names_ok (by kernel_rfl), axA_ok7⟩
theorem awE7 : (runEP ⟨Tryz.prog, Γ, axA7⟩ ptA7 2000 13 []).bind AV.pvT = some (.p (.bool true)) := by kernel_rfl
theorem awake_ok7 : PFn Tryz.prog 13 [] [.bool true] := by
  obtain ⟨v, h1, h2⟩ := Option.bind_eq_some_iff.1 awE7
  exact .of_acP ((runEP_ok hEA7 h1).monoR fun u h' ⟨e1, e2⟩ => ⟨by rw [e1]; exact h2, e2⟩)
end Go.Proofs.YtpljmccnfmkmfaaGreat
end

section
namespace Go.Proofs.YtpljmccnfmkmfaaGreat
open Go Go.AM
set_option maxRecDepth 100000
set_option maxHeartbeats 4000000
set_option linter.unusedSimpArgs false

theorem u23 (q p : Int) (us bs : List (List UInt8)) (hl : us.length ≤ 9223372036854775807) : PFn Tryz.prog 21 [codeV q us, codeV p bs] [.bool (decide (q = p ∧ us = bs))] := by
  by_cases hq : q = p
  rotate_left
  · rw [decide_eq_false (fun e => hq e.1)]
    refine PFn.of_body hΓ Tryz.func21 (by kernel_rfl) rfl (AWp.of_awpD [] hΓ hmix (by kernel_rfl) ?_)
    simp -implicitDefEqProofs only [Tryz.ntmps21, Tryz.results21, Nat.reduceAdd, Nat.reduceSub, codeV, hq, go_sem]
  subst hq
  rw [show decide (q = q ∧ us = bs) = decide (us = bs) by simp]
  refine PFn.of_body hΓ Tryz.func21 (by kernel_rfl) rfl (AWp.of_awpD [] hΓ hmix (by kernel_rfl) ?_)
  by_cases hn : (us.length : Int) = bs.length
  rotate_left
  · rw [decide_eq_false (fun e => hn (by rw [e]))]
    simp -implicitDefEqProofs only [Tryz.ntmps21, Tryz.results21, Nat.reduceAdd, Nat.reduceSub, codeV, hn, go_sem]
  simp -implicitDefEqProofs only [Tryz.ntmps21, Tryz.results21, Nat.reduceAdd, Nat.reduceSub, codeV, hn, go_sem]
  have hn' : us.length = bs.length := by omega
  refine AWp.loopI (fun k : Nat => ⟨mkF 38 [(2, .ptr 0 0), (3, .ptr 1 0), (4, .p (.bool false)), (5, .p (.int .i64 k))], [codeB q us, codeB q bs]⟩)
    (fun k => k ≤ us.length ∧ us.take k = bs.take k) (fun k => us.length - k) 0 (by simp [go_sem, codeB]) (by simp) ?_
  rintro k ⟨hk, heq⟩
  refine AWp.of_awpD [(6, 11)] hΓ hmix (by kernel_rfl) ?_
  by_cases hlt : k < us.length
  · have hlt2 : k < bs.length := by omega
    by_cases he : us[k] = bs[k]
    · simp -implicitDefEqProofs only [hlt, hlt2, he, getD_map_lt, ↓reduceIte, codeB, go_sem]
      refine ⟨by simp only [InR]; omega, k + 1, by omega, ⟨hlt, ?_⟩, by omega⟩
      rw [List.take_succ_eq_append_getElem hlt, List.take_succ_eq_append_getElem hlt2, heq, he]
    · simp -implicitDefEqProofs only [hlt, hlt2, he, getD_map_lt, ↓reduceIte, codeB, go_sem]
      refine (decide_eq_false fun e => he ?_).symm
      subst e; rfl
  · simp -implicitDefEqProofs only [hlt, codeB, go_sem]
    rw [List.take_of_length_le (by omega), List.take_of_length_le (by omega)] at heq
    exact (decide_eq_true heq).symm

end Go.Proofs.YtpljmccnfmkmfaaGreat
end

section
namespace Go.Proofs.YtpljmccnfmkmfaaGreat
open Go Go.AM
set_option maxRecDepth 100000
set_option maxHeartbeats 4000000
set_option linter.unusedSimpArgs false

theorem compV_code (q : Int) (ws : List (List UInt8)) (hws : ws.length ≤ 9223372036854775807) : ∃ p us, compV q ws = codeV p us ∧ us.length ≤ 9223372036854775807 := by
  unfold compV
  by_cases hc : chE q ws = 0
  · rw [if_neg (by simpa using hc)]
    obtain ⟨hv, _⟩ := chE_valid hc
    have h1 := missV_len hv
    have h2 := hv.len
    obtain ⟨p, us, h, hl⟩ := makeV_code q (ws ++ missV q ws)
    rw [List.length_append] at hl
    exact ⟨p, us, h, by omega⟩
  · rw [if_pos hc]
    exact ⟨0, [], rfl, by simp⟩
theorem embV_code (q : Int) (ws : List (List UInt8)) (n : Int) : ∃ p us, embV q ws n = codeV p us ∧ us.length ≤ 9223372036854775807 := by
  unfold embV
  by_cases hc : chE q ws = 0
  · rw [if_neg (by simpa using hc)]
    split
    · exact ⟨0, [], rfl, by simp⟩
    split
    · exact ⟨0, [], rfl, by simp⟩
    · obtain ⟨p, us, h, hl⟩ := makeV_code q (ws ++ embL q.toNat ws n.toNat)
      rw [List.length_append] at hl
      exact ⟨p, us, h, by omega⟩
  · rw [if_pos hc]
    exact ⟨0, [], rfl, by simp⟩

theorem b3 (q : Int) (ws : List (List UInt8)) (n : Int) (hws : ws.length ≤ 9223372036854775807) : PFn Tryz.prog 3 [codeV q ws, .int .i64 n] [.bool true] := by
  have eg := t11 q ws hws
  have e14 := cm18 q ws
  have e15 := r19 q ws
  have e16 := cm20 q ws
  have e17 := r21 q ws
  have e18 := cm22 q ws n
  have e19 := q19 q ws n
  have hml : (missV q ws).length ≤ 32768 := by
    by_cases hc : chE q ws = 0
    · exact missV_len (chE_valid hc).1
    · unfold missV; rw [if_neg hc]; simp
  have e20 := e24 (missV q ws) (missV q ws) (by omega)
  rw [decide_eq_true rfl] at e20
  obtain ⟨p1, us1, hp1, hl1⟩ := compV_code q ws hws
  obtain ⟨p2, us2, hp2, hl2⟩ := embV_code q ws n
  have e21a := u23 p1 p1 us1 us1 hl1
  have e21b := u23 p2 p2 us2 us2 hl2
  rw [decide_eq_true ⟨rfl, rfl⟩] at e21a e21b
  rw [hp1] at e16 e17
  rw [hp2] at e18 e19
  generalize missV q ws = M at *
  generalize chE q ws = C at *
  generalize compE q ws = D at *
  generalize embE q ws n = E at *
  refine PFn.of_body hΓ Tryz.func3 (by kernel_rfl) rfl (AWp.seq (AWp.of_awpD [] hΓ hmix (by kernel_rfl) ?_))
  simp -implicitDefEqProofs only [Tryz.ntmps3, Tryz.results3, Nat.reduceAdd, Nat.reduceSub, codeV, go_sem]
  unfold codeV at eg e14 e15 e16 e17 e18 e19 e21a e21b
  refine AWp.seq ?_
  refine AWp.of_awpD [] hΓ hmix (by kernel_rfl) ?_
  simp -implicitDefEqProofs only [go_sem]
  refine callK_fn eg (.still rfl) ?_
  cases hg : (greatC ws || ws.any greatW)
  rotate_left
  · simp -implicitDefEqProofs only [go_sem]
    refine callK_fn awake_ok7 (.pures rfl) ?_
    simp -implicitDefEqProofs only [go_sem]
  simp -implicitDefEqProofs only [go_sem]
  --@@
  refine AWp.of_awpD [] hΓ hmix (by kernel_rfl) ?_
  simp -implicitDefEqProofs only [go_sem]
  refine callK_fn e14 (.still rfl) ?_
  simp -implicitDefEqProofs only [go_sem]
  refine callK_fn e15 (.still rfl) ?_
  simp -implicitDefEqProofs only [go_sem]
  refine callK_fn e16 (.still rfl) ?_
  simp -implicitDefEqProofs only [go_sem]
  refine callK_fn e17 (.still rfl) ?_
  simp -implicitDefEqProofs only [go_sem]
  refine callK_fn e18 (.still rfl) ?_
  simp -implicitDefEqProofs only [go_sem]
  refine callK_fn e19 (.still rfl) ?_
  simp -implicitDefEqProofs only [go_sem]
  refine callK_fn e20 (.still rfl) ?_
  simp -implicitDefEqProofs only [go_sem]
  refine callK_fn e21a (.still rfl) ?_
  simp -implicitDefEqProofs only [go_sem]
  refine callK_fn e21b (.still rfl) ?_
  simp -implicitDefEqProofs only [go_sem]
  refine callK_fn awake_ok7 (.pures rfl) ?_
  simp -implicitDefEqProofs only [go_sem]
end Go.Proofs.YtpljmccnfmkmfaaGreat
end

