/-
  The reference's Sorted: words put in one by one.
  Prefix and Suffix of the reference, Suffix, Longest, Same, Make of the reference.
  Bifix, Symmetric; the law CompletionBifix.
-/
import Derived.Test.YtjjedaikbgfmmaaGreatJ179ddf9a55e5

section
namespace Go.Proofs.YtjjedaikbgfmmaaGreat
open Go Go.AM
set_option maxRecDepth 100000
set_option linter.unusedSimpArgs false

/-- Sorted's memory: held is the list so far, or nobody's. -/
def stH (m : Nat) (o : Bool) (l : List (List UInt8)) : List AObj := List.replicate m .dead ++ [if o then .row 9 1 (l.map .str) .lax else .dead]
def stV (m : Nat) (o : Bool) (l : List (List UInt8)) : AV := if o then .own m l.length else .p (.sl (l.map .str))

theorem weakH_snoc {a b : AObj} (h : b = .dead ∨ b = a ∨ laxer a b) : ∀ H : List AObj, weakH (H ++ [a]) (H ++ [b])
  | [] => ⟨h, trivial⟩
  | _ :: H => ⟨.inr (.inl rfl), weakH_snoc h H⟩

/-- A word put in where it belongs. -/
def putAt (l : List (List UInt8)) (k : Nat) (w : List UInt8) : List (List UInt8) := l.take k ++ [w] ++ l.drop k
theorem putAt_strict {l : List (List UInt8)} {k : Nat} {w : List UInt8} (hp : l.Pairwise ltW) (hk : k ≤ l.length) (hlow : ∀ j, j < k → cmpW (l.getD j []) w < 0) (hup : k < l.length → ltW w (l.getD k [])) : (putAt l k w).Pairwise ltW := by
  have h1 := List.pairwise_iff_getElem.1 hp
  unfold putAt
  rw [List.append_assoc, List.pairwise_append]
  refine ⟨hp.sublist (List.take_sublist k l), ?_, fun x hx y hy => ?_⟩
  · rw [List.singleton_append, List.pairwise_cons]
    refine ⟨fun y hy => ?_, hp.sublist (List.drop_sublist k l)⟩
    obtain ⟨j, hj, rfl⟩ := List.getElem_of_mem hy
    rw [List.getElem_drop]
    rw [List.length_drop] at hj
    have h2 := hup (by omega)
    rw [List.getD_eq_getElem?_getD, List.getElem?_eq_getElem (by omega), Option.getD_some] at h2
    by_cases e : j = 0
    · subst e; exact h2
    · exact ltW_trans h2 (h1 k (k + j) (by omega) (by omega) (by omega))
  · obtain ⟨j, hj, rfl⟩ := List.mem_take_iff_getElem.1 hx
    have hjk : j < k := by omega
    have hjl : j < l.length := by omega
    have h3 := hlow j hjk
    rw [List.getD_eq_getElem?_getD, List.getElem?_eq_getElem hjl, Option.getD_some] at h3
    rcases List.mem_cons.1 (by simpa using hy) with rfl | hy
    · exact (ltW_iff _ _).1 h3
    · obtain ⟨q, hq, rfl⟩ := List.getElem_of_mem hy
      rw [List.getElem_drop]
      rw [List.length_drop] at hq
      exact h1 j (k + q) hjl (by omega) (by omega)
theorem mem_putAt {l : List (List UInt8)} {k : Nat} {w x : List UInt8} : x ∈ putAt l k w ↔ x ∈ l ∨ x = w := by
  unfold putAt
  conv => rhs; rw [← List.take_append_drop k l]
  simp only [List.mem_append, List.mem_singleton]
  constructor
  · rintro ((h | h) | h)
    · exact .inl (.inl h)
    · exact .inr h
    · exact .inl (.inr h)
  · rintro ((h | h) | h)
    · exact .inl (.inl h)
    · exact .inr h
    · exact .inl (.inr h)
theorem putAt_len {l : List (List UInt8)} {k : Nat} {w : List UInt8} (hk : k ≤ l.length) : (putAt l k w).length = l.length + 1 := by
  unfold putAt; simp; omega

theorem stH_false (m : Nat) (l : List (List UInt8)) : stH m false l = List.replicate (m + 1) .dead := by simp [stH, List.replicate_succ']

theorem u50 (ws : List (List UInt8)) (hl : ws.length ≤ 1000000) : PFn Tryz.prog 109 [.sl (ws.map .str)] [.sl ((made ws).map .str)] := by
  refine PFn.of_body hΓ Tryz.func109 (by kernel_rfl) rfl (AWp.of_awpD [] hΓ hmix (by kernel_rfl) ?_)
  simp -implicitDefEqProofs only [Tryz.ntmps109, Tryz.results109, Nat.reduceAdd, Nat.reduceSub, go_sem]
  refine AWp.adopt (l := []) 3 9 1 (by rfl) (by simp) ?_
  simp -implicitDefEqProofs only [go_sem]
  refine AWp.loopI (fun x : Nat × List (List UInt8) × Nat × Bool => ⟨mkF 60 [(0, .p (.sl (ws.map .str))), (3, stV x.2.2.1 x.2.2.2 x.2.1), (4, .p (.int .i64 x.1))], stH x.2.2.1 x.2.2.2 x.2.1⟩)
    (fun x => x.1 ≤ ws.length ∧ x.2.1.length ≤ x.1 ∧ x.2.1.Pairwise ltW ∧ (∀ v, v ∈ x.2.1 ↔ v ∈ ws.take x.1)) (fun x => ws.length - x.1) (0, [], 0, true) (by simp [go_sem, stV, stH]) (by simp) ?_
  rintro ⟨i, l, m, o⟩ ⟨hi, hli, hp, hm⟩
  simp only at hi hli hp hm
  refine AWp.freezeIf (E := 9) (s := 1) (k := .lax) (xs := l.map .str) o m (by rintro rfl; simp [stH]) ?_
  have e : ∀ st : St, st = ⟨mkF 60 [(0, .p (.sl (ws.map .str))), (3, stV m o l), (4, .p (.int .i64 i))], stH m o l⟩ → (if o = true then Frozen st m (l.map .str) else st) = ⟨mkF 60 [(0, .p (.sl (ws.map .str))), (3, .p (.sl (l.map .str))), (4, .p (.int .i64 i))], List.replicate (m + 1) .dead⟩ := by
    rintro _ rfl
    cases o
    · simp [stV, stH_false]
    · simp [Frozen, go_sem, stV, stH, List.replicate_succ', AV.thaw, AObj.thaw]
  rw [e _ rfl]
  clear e
  obtain ⟨H, hH⟩ : ∃ H : List AObj, H = List.replicate (m + 1) .dead := ⟨_, rfl⟩
  have hHl : H.length = m + 1 := by rw [hH]; simp
  have hK : H.map (AObj.kill (m + 1)) = H := by rw [hH]; simp [AObj.kill]
  rw [← hH]
  have gL : ∀ o : AObj, (H ++ [o])[H.length]? = some o := fun o => by simp
  have sL : ∀ o o' : AObj, (H ++ [o]).set H.length o' = H ++ [o'] := fun o o' => by simp
  have hKL : H.map (AObj.kill H.length) = H := by rw [hHl]; exact hK
  refine AWp.of_awpD [(8, 15), (9, 1000)] hΓ hmix (by kernel_rfl) ?_
  by_cases hlt : i < ws.length
  · simp -implicitDefEqProofs only [hlt, getD_map_lt, ↓reduceIte, go_sem]
    refine AWp.loopI (fun k : Nat => ⟨mkF 60 [(0, .p (.sl (ws.map .str))), (3, .p (.sl (l.map .str))), (4, .p (.int .i64 i)), (5, .p (.int .i64 k))], H⟩)
      (fun k => k ≤ l.length ∧ ∀ j, j < k → cmpW (l.getD j []) ws[i] < 0) (fun k => l.length - k) 0 (by simp [go_sem, weakH_self]) (by simp) ?_
    rintro k ⟨hk, hlow⟩
    refine AWp.of_awpD [(6, 15)] hΓ hmix (by kernel_rfl) ?_
    by_cases hkl : k < l.length
    · simp -implicitDefEqProofs only [hlt, hkl, getD_map_lt, ↓reduceIte, go_sem]
      refine callVPK_fn (t79' l[k] ws[i]) (.pures rfl) ?_
      by_cases hc : cmpW l[k] ws[i] < 0
      · simp -implicitDefEqProofs only [hlt, hkl, hc, decide_true, getD_map_lt, ↓reduceIte, go_sem]
        refine ⟨by simp only [InR]; omega, k + 1, ⟨by omega, weakH_self _⟩, ⟨by omega, fun j hj => ?_⟩, by omega⟩
        by_cases hjk : j = k
        · subst hjk
          rw [List.getD_eq_getElem?_getD, List.getElem?_eq_getElem hkl, Option.getD_some]; exact hc
        · exact hlow j (by omega)
      · by_cases he : l[k] = ws[i]
        · have hc' : ¬ cmpW ws[i] ws[i] < 0 := by rw [he] at hc; exact hc
          simp -implicitDefEqProofs only [hlt, hkl, hc', decide_false, he, getD_map_lt, ↓reduceIte, go_sem]
          refine ⟨by simp only [InR]; omega, (i + 1, l, m, false), ⟨⟨.inr (by simp [stV]), by simp⟩, ?_⟩, ⟨by simp only; omega, by simp only; omega, hp, fun v => ?_⟩, by simp only; omega⟩
          · simp only [stH_false]; rw [← hH]; exact weakH_self _
          · rw [hm, List.take_succ_eq_append_getElem hlt, List.mem_append, List.mem_singleton]
            refine ⟨.inl, fun h => h.elim id fun h => ?_⟩
            subst h
            exact (hm _).1 (by rw [← he]; exact List.getElem_mem hkl)
        · simp -implicitDefEqProofs only [hlt, hkl, hc, decide_false, he, getD_map_lt, ↓reduceIte, go_sem]
          have hup : k < l.length → ltW ws[i] (l.getD k []) := fun _ => by
            rw [List.getD_eq_getElem?_getD, List.getElem?_eq_getElem hkl, Option.getD_some]
            apply Classical.byContradiction
            intro hno
            exact he (ltW_total (fun h => hc ((ltW_iff _ _).2 h)) hno)
          refine AWp.planL (.q 0 (.q 1 (.q 2 (.q 3 (.q 5 (.q 6 (.q 7 (.q 8 (.q 9 (.q 11 (.q 12 (.q 13 (.e 4 (.s 5 (.s 6 (.s 7 (.s 8 (.s 9 (.s 11 (.s 12 (.s 13 (.e 10 (.s 11 (.s 12 (.s 13 (.e 14 (.q 15 .fin) .nil)))) .nil))))))))) .nil))))))))))))) hΓ hmix (by kernel_rfl) ?_
          simp -implicitDefEqProofs only [hlt, hkl, getD_map_lt, ↓reduceIte, gL, sL, hKL, go_sem]
          have hpl := putAt_strict hp hk hlow hup
          have hlen := putAt_len (w := ws[i]) hk
          have hmem : ∀ v, v ∈ putAt l k ws[i] ↔ v ∈ ws.take (i + 1) := fun v => by
            rw [mem_putAt, hm, List.take_succ_eq_append_getElem hlt, List.mem_append, List.mem_singleton]
          have ht : (l.take k).length = k := by simp; omega
          have hd : (l.drop k).length = l.length - k := by simp
          rw [← List.map_take, ← List.map_drop]
          generalize hrk : (if (List.map PV.str (List.take k l)).isEmpty = true then RK.lax else RK.own) = rk1
          have hr1 : rk1 ≠ .raw := by rw [← hrk]; split <;> simp
          simp only [List.map_append, hKL, List.map_cons, List.map_nil, AObj.kill, sL, gL, List.isEmpty_cons, Bool.false_eq_true, if_false, List.length_map]
          refine ⟨⟨by simp [sizeOK], by omega⟩, size_str _, by omega, ⟨size_str [ws[i]], by omega⟩, size_str _, by omega, ⟨size_str _, one_str _⟩, ⟨by simp [sizeOK], by omega, by omega⟩, ⟨size_str [ws[i]], by omega⟩, ⟨size_str _, by omega⟩, ⟨size_str [ws[i]], one_str [ws[i]]⟩, ⟨hr1, .inl (by omega), by omega, by omega⟩, ⟨size_str _, by omega⟩, ⟨size_str _, one_str _⟩, ⟨by simp, .inl (by omega), trivial, trivial, by omega, by omega⟩, by simp only [InR]; omega,
            (i + 1, putAt l k ws[i], m + 1, true), ⟨⟨.inr ?_, by simp⟩, ?_⟩, ⟨by simp only; omega, by simp only; omega, hpl, hmem⟩, by simp only; omega⟩
          · simp only [stV, if_true]
            rw [hHl]; congr 1; omega
          · simp only [stH, if_true]
            rw [← hH]
            have e3 : (putAt l k ws[i]).map PV.str = List.map PV.str (List.take k l) ++ [PV.str ws[i]] ++ List.map PV.str (List.drop k l) := by simp [putAt]
            rw [e3]
            refine weakH_snoc ?_ H
            by_cases hb : (List.map PV.str (List.drop k l)).isEmpty = true
            · rw [if_pos hb]; exact .inr (.inr rfl)
            · rw [if_neg hb]; exact .inr (.inr rfl)
    · simp -implicitDefEqProofs only [hlt, hkl, getD_map_lt, ↓reduceIte, go_sem]
      have hup : k < l.length → ltW ws[i] (l.getD k []) := fun h => absurd h hkl
      refine AWp.planL (.q 0 (.q 1 (.q 2 (.q 3 (.q 5 (.q 6 (.q 7 (.q 8 (.q 9 (.q 11 (.q 12 (.q 13 (.e 4 (.s 5 (.s 6 (.s 7 (.s 8 (.s 9 (.s 11 (.s 12 (.s 13 (.e 10 (.s 11 (.s 12 (.s 13 (.e 14 (.q 15 .fin) .nil)))) .nil))))))))) .nil))))))))))))) hΓ hmix (by kernel_rfl) ?_
      simp -implicitDefEqProofs only [hlt, hkl, getD_map_lt, ↓reduceIte, gL, sL, hKL, go_sem]
      have hpl := putAt_strict hp hk hlow hup
      have hlen := putAt_len (w := ws[i]) hk
      have hmem : ∀ v, v ∈ putAt l k ws[i] ↔ v ∈ ws.take (i + 1) := fun v => by
        rw [mem_putAt, hm, List.take_succ_eq_append_getElem hlt, List.mem_append, List.mem_singleton]
      have ht : (l.take k).length = k := by simp; omega
      have hd : (l.drop k).length = l.length - k := by simp
      rw [← List.map_take, ← List.map_drop]
      generalize hrk : (if (List.map PV.str (List.take k l)).isEmpty = true then RK.lax else RK.own) = rk1
      have hr1 : rk1 ≠ .raw := by rw [← hrk]; split <;> simp
      simp only [List.map_append, hKL, List.map_cons, List.map_nil, AObj.kill, sL, gL, List.isEmpty_cons, Bool.false_eq_true, if_false, List.length_map]
      refine ⟨⟨by simp [sizeOK], by omega⟩, size_str _, by omega, ⟨size_str [ws[i]], by omega⟩, size_str _, by omega, ⟨size_str _, one_str _⟩, ⟨by simp [sizeOK], by omega, by omega⟩, ⟨size_str [ws[i]], by omega⟩, ⟨size_str _, by omega⟩, ⟨size_str [ws[i]], one_str [ws[i]]⟩, ⟨hr1, .inl (by omega), by omega, by omega⟩, ⟨size_str _, by omega⟩, ⟨size_str _, one_str _⟩, ⟨by simp, .inl (by omega), trivial, trivial, by omega, by omega⟩, by simp only [InR]; omega,
        (i + 1, putAt l k ws[i], m + 1, true), ⟨⟨.inr ?_, by simp⟩, ?_⟩, ⟨by simp only; omega, by simp only; omega, hpl, hmem⟩, by simp only; omega⟩
      · simp only [stV, if_true]
        rw [hHl]; congr 1; omega
      · simp only [stH, if_true]
        rw [← hH]
        have e3 : (putAt l k ws[i]).map PV.str = List.map PV.str (List.take k l) ++ [PV.str ws[i]] ++ List.map PV.str (List.drop k l) := by simp [putAt]
        rw [e3]
        refine weakH_snoc ?_ H
        by_cases hb : (List.map PV.str (List.drop k l)).isEmpty = true
        · rw [if_pos hb]; exact .inr (.inr rfl)
        · rw [if_neg hb]; exact .inr (.inr rfl)
  · simp -implicitDefEqProofs only [hlt, go_sem]
    rw [List.take_of_length_le (by omega)] at hm
    rw [made_of hp (fun x => (hm x).symm)]
end Go.Proofs.YtjjedaikbgfmmaaGreat
end

section
namespace Go.Proofs.YtjjedaikbgfmmaaGreat
open Go Go.AM
set_option maxRecDepth 100000
set_option linter.unusedSimpArgs false

theorem u52 (w x : List UInt8) : PFn Tryz.prog 124 [.str w, .str x] [.bool (x.isPrefixOf w)] := by
  refine PFn.of_body hΓ Tryz.func124 (by kernel_rfl) rfl (AWp.of_awpD [] hΓ hmix (by kernel_rfl) ?_)
  simp +contextual -implicitDefEqProofs only [Tryz.ntmps124, Tryz.results124, Nat.reduceAdd, Nat.reduceSub, go_sem]
  refine ⟨fun h => ?_, fun h => ?_⟩
  · rw [Bool.eq_iff_iff, List.isPrefixOf_iff_prefix, List.prefix_iff_eq_take, decide_eq_true_eq]; exact eq_comm
  · rw [Bool.eq_iff_iff, List.isPrefixOf_iff_prefix]
    exact ⟨fun h => by simp at h, fun h' => absurd h'.length_le (by omega)⟩
theorem u54 (w x : List UInt8) (hw : w.length ≤ 9223372036854775807) : PFn Tryz.prog 125 [.str w, .str x] [.bool (x.isSuffixOf w)] := by
  refine PFn.of_body hΓ Tryz.func125 (by kernel_rfl) rfl (AWp.of_awpD [] hΓ hmix (by kernel_rfl) ?_)
  simp +contextual -implicitDefEqProofs only [Tryz.ntmps125, Tryz.results125, Nat.reduceAdd, Nat.reduceSub, go_sem]
  refine ⟨fun h => ⟨by simp only [InR]; omega, by omega, ?_⟩, fun h => ?_⟩
  · rw [Bool.eq_iff_iff, List.isSuffixOf_iff_suffix, List.suffix_iff_eq_drop, decide_eq_true_eq, show ((w.length : Int) - x.length).toNat = w.length - x.length by omega]; exact eq_comm
  · rw [Bool.eq_iff_iff, List.isSuffixOf_iff_suffix]
    exact ⟨fun h => by simp at h, fun h' => absurd h'.length_le (by omega)⟩
theorem u86 (w x : List UInt8) (hw : w.length ≤ 9223372036854775807) : PFn Tryz.prog 128 [.str w, .str x] [.bool (x.isSuffixOf w)] := by
  refine PFn.of_body hΓ Tryz.func128 (by kernel_rfl) rfl (AWp.of_awpD [] hΓ hmix (by kernel_rfl) ?_)
  simp +contextual -implicitDefEqProofs only [Tryz.ntmps128, Tryz.results128, Nat.reduceAdd, Nat.reduceSub, go_sem]
  refine ⟨fun h => ⟨by simp only [InR]; omega, by omega, ?_⟩, fun h => ?_⟩
  · rw [Bool.eq_iff_iff, List.isSuffixOf_iff_suffix, List.suffix_iff_eq_drop, decide_eq_true_eq, show ((w.length : Int) - x.length).toNat = w.length - x.length by omega]; exact eq_comm
  · rw [Bool.eq_iff_iff, List.isSuffixOf_iff_suffix]
    exact ⟨fun h => by simp at h, fun h' => absurd h'.length_le (by omega)⟩
theorem u53 (w x : List UInt8) (hw : w.length ≤ 9223372036854775807) : PFn Tryz.prog 90 [.str w, .str x] [.bool (x.isSuffixOf w)] := by
  refine PFn.of_body hΓ Tryz.func90 (by kernel_rfl) rfl (AWp.of_awpD [] hΓ hmix (by kernel_rfl) ?_)
  simp +contextual -implicitDefEqProofs only [Tryz.ntmps90, Tryz.results90, Nat.reduceAdd, Nat.reduceSub, go_sem]
  refine callK_fn (u86 w x hw) (.pures rfl) ?_
  simp +contextual -implicitDefEqProofs only [go_sem]

theorem u17 (q : Int) (ws : List (List UInt8)) : PFn Tryz.prog 46 [codeV q ws] [.bool (if codeCheck q ws = 0 then aloneB (fun w x => x.isSuffixOf w) ws else false), .int .i64 (if codeCheck q ws = 0 then 0 else 1)] := by
  refine PFn.of_body hΓ Tryz.func46 (by kernel_rfl) rfl (AWp.of_awpD [] hΓ hmix (by kernel_rfl) ?_)
  simp +contextual -implicitDefEqProofs only [codeV, Tryz.ntmps46, Tryz.results46, Nat.reduceAdd, Nat.reduceSub, go_sem]
  refine callK_ac (c68 q ws u53) (by simp) ?_
  rintro v h' ⟨rfl, rfl⟩
  simp -implicitDefEqProofs only [killAll, List.foldl, codeB, go_sem]

theorem u16 (q : Int) (ws : List (List UInt8)) : PFn Tryz.prog 85 [codeV q ws] [.bool (if codeCheck q ws = 0 then aloneB (fun w x => x.isPrefixOf w) ws else false), .int .i64 (if codeCheck q ws = 0 then 0 else 1)] := by
  refine PFn.of_body hΓ Tryz.func85 (by kernel_rfl) rfl (AWp.of_awpD [] hΓ hmix (by kernel_rfl) ?_)
  simp +contextual -implicitDefEqProofs only [codeV, Tryz.ntmps85, Tryz.results85, Nat.reduceAdd, Nat.reduceSub, go_sem]
  refine callK_fn (t44 q ws) (.still rfl) ?_
  by_cases h : codeCheck q ws = 0
  · have hv := valid_of h
    have hws := hv.len
    rw [h]
    simp -implicitDefEqProofs only [go_sem]
    refine AWp.loopI (fun i : Nat => ⟨mkF 39 [(1, .ptr 0 0), (2, .p (.bool false)), (3, .p (.int .i64 0)), (4, .p (.int .i64 i))], [codeB q ws]⟩)
      (fun i => i ≤ ws.length ∧ aloneN (fun w x => x.isPrefixOf w) ws i = true) (fun i => ws.length - i) 0 (by simp [go_sem, codeB]) ⟨by omega, rfl⟩ ?_
    rintro i ⟨hi, hal⟩
    refine AWp.of_awpD [] hΓ hmix (by kernel_rfl) ?_
    by_cases hlt : i < ws.length
    · simp -implicitDefEqProofs only [hlt, getD_map_lt, ↓reduceIte, codeB, go_sem]
      refine AWp.loopI (fun k : Nat => ⟨mkF 39 [(1, .ptr 0 0), (2, .p (.bool false)), (3, .p (.int .i64 0)), (4, .p (.int .i64 i)), (5, .p (.int .i64 k))], [codeB q ws]⟩)
        (fun k => k ≤ ws.length ∧ aloneTo (fun w x => x.isPrefixOf w) ws i k = true) (fun k => ws.length - k) 0 (by simp [go_sem, codeB]) ⟨by omega, rfl⟩ ?_
      rintro k ⟨hk, hal2⟩
      refine AWp.of_awpD [(9, 16)] hΓ hmix (by kernel_rfl) ?_
      have hwi : ws.getD i [] = ws[i] := by rw [List.getD_eq_getElem?_getD, List.getElem?_eq_getElem hlt, Option.getD_some]
      have hsh : ws[i].length ≤ 9223372036854775807 := by have := hv.short i hlt; rw [hwi] at this; omega
      by_cases hlt2 : k < ws.length
      · have hwk : ws.getD k [] = ws[k] := by rw [List.getD_eq_getElem?_getD, List.getElem?_eq_getElem hlt2, Option.getD_some]
        by_cases he : (i : Int) = k
        · simp -implicitDefEqProofs only [hlt2, he, getD_map_lt, ↓reduceIte, codeB, go_sem]
          refine ⟨by simp only [InR]; omega, k + 1, by omega, ⟨hlt2, ?_⟩, by omega⟩
          rw [aloneTo_succ, hal2, decide_eq_true (by omega)]; rfl
        · simp -implicitDefEqProofs only [hlt, hlt2, he, getD_map_lt, ↓reduceIte, codeB, go_sem]
          refine callVPK_fn (u52 ws[i] ws[k]) (.pures rfl) ?_
          cases hp : ws[k].isPrefixOf ws[i]
          · simp -implicitDefEqProofs only [hlt, hlt2, he, getD_map_lt, ↓reduceIte, codeB, go_sem]
            refine ⟨by simp only [InR]; omega, k + 1, by omega, ⟨hlt2, ?_⟩, by omega⟩
            rw [aloneTo_succ, hal2, hwi, hwk, hp]; simp
          · simp -implicitDefEqProofs only [hlt, hlt2, he, getD_map_lt, ↓reduceIte, codeB, go_sem]
            rw [alone_bad hlt hlt2 (by omega) (by rw [hwi, hwk]; exact hp)]
      · simp -implicitDefEqProofs only [hlt2, codeB, go_sem]
        refine ⟨by simp only [InR]; omega, i + 1, by omega, ⟨hlt, ?_⟩, by omega⟩
        rw [aloneN_succ, hal, show ws.length = k by omega, hal2]; rfl
    · simp -implicitDefEqProofs only [hlt, codeB, go_sem]
      rw [show i = ws.length by omega] at hal; exact hal.symm
  · simp -implicitDefEqProofs only [h, go_sem]

theorem u18 (q : Int) (ws : List (List UInt8)) : PFn Tryz.prog 86 [codeV q ws] [.bool (if codeCheck q ws = 0 then aloneB (fun w x => x.isSuffixOf w) ws else false), .int .i64 (if codeCheck q ws = 0 then 0 else 1)] := by
  refine PFn.of_body hΓ Tryz.func86 (by kernel_rfl) rfl (AWp.of_awpD [] hΓ hmix (by kernel_rfl) ?_)
  simp +contextual -implicitDefEqProofs only [codeV, Tryz.ntmps86, Tryz.results86, Nat.reduceAdd, Nat.reduceSub, go_sem]
  refine callK_fn (t44 q ws) (.still rfl) ?_
  by_cases h : codeCheck q ws = 0
  · have hv := valid_of h
    have hws := hv.len
    rw [h]
    simp -implicitDefEqProofs only [go_sem]
    refine AWp.loopI (fun i : Nat => ⟨mkF 39 [(1, .ptr 0 0), (2, .p (.bool false)), (3, .p (.int .i64 0)), (4, .p (.int .i64 i))], [codeB q ws]⟩)
      (fun i => i ≤ ws.length ∧ aloneN (fun w x => x.isSuffixOf w) ws i = true) (fun i => ws.length - i) 0 (by simp [go_sem, codeB]) ⟨by omega, rfl⟩ ?_
    rintro i ⟨hi, hal⟩
    refine AWp.of_awpD [] hΓ hmix (by kernel_rfl) ?_
    by_cases hlt : i < ws.length
    · simp -implicitDefEqProofs only [hlt, getD_map_lt, ↓reduceIte, codeB, go_sem]
      refine AWp.loopI (fun k : Nat => ⟨mkF 39 [(1, .ptr 0 0), (2, .p (.bool false)), (3, .p (.int .i64 0)), (4, .p (.int .i64 i)), (5, .p (.int .i64 k))], [codeB q ws]⟩)
        (fun k => k ≤ ws.length ∧ aloneTo (fun w x => x.isSuffixOf w) ws i k = true) (fun k => ws.length - k) 0 (by simp [go_sem, codeB]) ⟨by omega, rfl⟩ ?_
      rintro k ⟨hk, hal2⟩
      refine AWp.of_awpD [(9, 16)] hΓ hmix (by kernel_rfl) ?_
      have hwi : ws.getD i [] = ws[i] := by rw [List.getD_eq_getElem?_getD, List.getElem?_eq_getElem hlt, Option.getD_some]
      have hsh : ws[i].length ≤ 9223372036854775807 := by have := hv.short i hlt; rw [hwi] at this; omega
      by_cases hlt2 : k < ws.length
      · have hwk : ws.getD k [] = ws[k] := by rw [List.getD_eq_getElem?_getD, List.getElem?_eq_getElem hlt2, Option.getD_some]
        by_cases he : (i : Int) = k
        · simp -implicitDefEqProofs only [hlt2, he, getD_map_lt, ↓reduceIte, codeB, go_sem]
          refine ⟨by simp only [InR]; omega, k + 1, by omega, ⟨hlt2, ?_⟩, by omega⟩
          rw [aloneTo_succ, hal2, decide_eq_true (by omega)]; rfl
        · simp -implicitDefEqProofs only [hlt, hlt2, he, getD_map_lt, ↓reduceIte, codeB, go_sem]
          refine callVPK_fn (u54 ws[i] ws[k] hsh) (.pures rfl) ?_
          cases hp : ws[k].isSuffixOf ws[i]
          · simp -implicitDefEqProofs only [hlt, hlt2, he, getD_map_lt, ↓reduceIte, codeB, go_sem]
            refine ⟨by simp only [InR]; omega, k + 1, by omega, ⟨hlt2, ?_⟩, by omega⟩
            rw [aloneTo_succ, hal2, hwi, hwk, hp]; simp
          · simp -implicitDefEqProofs only [hlt, hlt2, he, getD_map_lt, ↓reduceIte, codeB, go_sem]
            rw [alone_bad hlt hlt2 (by omega) (by rw [hwi, hwk]; exact hp)]
      · simp -implicitDefEqProofs only [hlt2, codeB, go_sem]
        refine ⟨by simp only [InR]; omega, i + 1, by omega, ⟨hlt, ?_⟩, by omega⟩
        rw [aloneN_succ, hal, show ws.length = k by omega, hal2]; rfl
    · simp -implicitDefEqProofs only [hlt, codeB, go_sem]
      rw [show i = ws.length by omega] at hal; exact hal.symm
  · simp -implicitDefEqProofs only [h, go_sem]

theorem u23 (q p : Int) (us bs : List (List UInt8)) (hl : us.length ≤ 9223372036854775807) : PFn Tryz.prog 25 [codeV q us, codeV p bs] [.bool (decide (q = p ∧ us = bs))] := by
  by_cases hq : q = p
  rotate_left
  · rw [decide_eq_false (fun e => hq e.1)]
    refine PFn.of_body hΓ Tryz.func25 (by kernel_rfl) rfl (AWp.of_awpD [] hΓ hmix (by kernel_rfl) ?_)
    simp -implicitDefEqProofs only [Tryz.ntmps25, Tryz.results25, Nat.reduceAdd, Nat.reduceSub, codeV, hq, go_sem]
  subst hq
  rw [show decide (q = q ∧ us = bs) = decide (us = bs) by simp]
  refine PFn.of_body hΓ Tryz.func25 (by kernel_rfl) rfl (AWp.of_awpD [] hΓ hmix (by kernel_rfl) ?_)
  by_cases hn : (us.length : Int) = bs.length
  rotate_left
  · rw [decide_eq_false (fun e => hn (by rw [e]))]
    simp -implicitDefEqProofs only [Tryz.ntmps25, Tryz.results25, Nat.reduceAdd, Nat.reduceSub, codeV, hn, go_sem]
  simp -implicitDefEqProofs only [Tryz.ntmps25, Tryz.results25, Nat.reduceAdd, Nat.reduceSub, codeV, hn, go_sem]
  have hn' : us.length = bs.length := by omega
  refine AWp.loopI (fun k : Nat => ⟨mkF 38 [(2, .ptr 0 0), (3, .ptr 1 0), (4, .p (.bool false)), (5, .p (.int .i64 k))], [codeB q us, codeB q bs]⟩)
    (fun k => k ≤ us.length ∧ us.take k = bs.take k) (fun k => us.length - k) 0 (by simp [go_sem, codeB]) (by simp) ?_
  rintro k ⟨hk, heq⟩
  refine AWp.of_awpD [(6, 11)] hΓ hmix (by kernel_rfl) ?_
  by_cases hlt : k < us.length
  · have hlt2 : k < bs.length := by omega
    by_cases he : us[k] = bs[k]
    · simp -implicitDefEqProofs only [hlt, hlt2, he, getD_map_lt, ↓reduceIte, codeB, go_sem]
      refine ⟨by simp only [InR]; omega, k + 1, by omega, ⟨hlt, ?_⟩, by omega⟩
      rw [List.take_succ_eq_append_getElem hlt, List.take_succ_eq_append_getElem hlt2, heq, he]
    · simp -implicitDefEqProofs only [hlt, hlt2, he, getD_map_lt, ↓reduceIte, codeB, go_sem]
      refine (decide_eq_false fun e => he ?_).symm
      subst e; rfl
  · simp -implicitDefEqProofs only [hlt, codeB, go_sem]
    rw [List.take_of_length_le (by omega), List.take_of_length_le (by omega)] at heq
    exact (decide_eq_true heq).symm

theorem u14 (q : Int) (ws : List (List UInt8)) (hl : ws.length ≤ 1000000) : PFn Tryz.prog 88 [.int .i64 q, .sl (ws.map .str)] [if codeCheck q (made ws) = 0 then codeV q (made ws) else codeV 0 [], .int .i64 (codeCheck q (made ws))] := by
  refine PFn.of_body hΓ Tryz.func88 (by kernel_rfl) rfl (AWp.of_awpD [] hΓ hmix (by kernel_rfl) ?_)
  simp +contextual -implicitDefEqProofs only [codeV, Tryz.ntmps88, Tryz.results88, Nat.reduceAdd, Nat.reduceSub, go_sem]
  refine callK_fn (u50 ws hl) (.pures rfl) ?_
  simp -implicitDefEqProofs only [go_sem]
  refine ⟨by omega, ?_⟩
  refine callK_fn (t44 q (made ws)) (.still rfl) ?_
  by_cases hc : codeCheck q (made ws) = 0
  · rw [hc]
    simp -implicitDefEqProofs only [go_sem]
  · simp -implicitDefEqProofs only [hc, go_sem]
end Go.Proofs.YtjjedaikbgfmmaaGreat
end

section
namespace Go.Proofs.YtjjedaikbgfmmaaGreat
open Go Go.AM
set_option maxRecDepth 100000
set_option linter.unusedSimpArgs false

/-- slices.Equal of words. -/
theorem e24 (a b : List (List UInt8)) (hl : a.length ≤ 9223372036854775807) : PFn Tryz.prog 24 [.sl (a.map .str), .sl (b.map .str)] [.bool (decide (a = b))] := by
  refine PFn.of_body hΓ Tryz.func24 (by kernel_rfl) rfl (AWp.of_awpD [] hΓ hmix (by kernel_rfl) ?_)
  simp -implicitDefEqProofs only [Tryz.ntmps24, Tryz.results24, Nat.reduceAdd, Nat.reduceSub, go_sem]
  by_cases he : a.length = b.length
  rotate_left
  · simp -implicitDefEqProofs only [he, go_sem]
    exact (decide_eq_false fun e : a = b => he (by rw [e])).symm
  simp -implicitDefEqProofs only [he, go_sem]
  refine AWp.loopI (fun k : Nat => ⟨mkF 26 [(0, .p (.sl (a.map .str))), (1, .p (.sl (b.map .str))), (4, .p (.bool false)), (12, .p (.int .i64 b.length)), (13, .p (.int .i64 k))], []⟩)
    (fun k => k ≤ a.length ∧ a.take k = b.take k) (fun k => a.length - k) 0 (by simp [go_sem]) (by simp) ?_
  rintro k ⟨hk, heq⟩
  refine AWp.of_awpD [(6, 9)] hΓ hmix (by kernel_rfl) ?_
  by_cases hlt : k < a.length
  · have hltb : k < b.length := by omega
    by_cases hk' : a[k] = b[k]
    · simp -implicitDefEqProofs only [hlt, hltb, getD_map_lt, ↓reduceIte, hk', go_sem]
      refine ⟨by simp only [InR]; omega, k + 1, by simp, ⟨hlt, ?_⟩, by omega⟩
      rw [List.take_succ_eq_append_getElem hlt, List.take_succ_eq_append_getElem (by omega), heq, hk']
    · simp -implicitDefEqProofs only [hlt, hltb, getD_map_lt, ↓reduceIte, hk', go_sem]
      exact (decide_eq_false fun e : a = b => hk' (by subst e; rfl)).symm
  · have hltb : ¬ k < b.length := by omega
    simp -implicitDefEqProofs only [hlt, hltb, go_sem]
    rw [List.take_of_length_le (by omega), List.take_of_length_le (by omega)] at heq
    exact (decide_eq_true heq).symm

def prefB (ws : List (List UInt8)) : Bool := aloneB (fun w x => x.isPrefixOf w) ws
def suffB (ws : List (List UInt8)) : Bool := aloneB (fun w x => x.isSuffixOf w) ws

theorem b40 (q : Int) (ws : List (List UInt8)) : PFn Tryz.prog 40 [codeV q ws] [.bool (if codeCheck q ws = 0 then prefB ws && suffB ws else false), .int .i64 (if codeCheck q ws = 0 then 0 else 1)] := by
  have e1 := t38 q ws
  have e2 := u17 q ws
  refine PFn.of_body hΓ Tryz.func40 (by kernel_rfl) rfl (AWp.of_awpD [] hΓ hmix (by kernel_rfl) ?_)
  unfold codeV at e1 e2 ⊢
  simp -implicitDefEqProofs only [Tryz.ntmps40, Tryz.results40, Nat.reduceAdd, Nat.reduceSub, go_sem]
  by_cases h : codeCheck q ws = 0
  · rw [if_pos h, if_pos h] at e1 e2 ⊢
    refine callK_fn e1 (.still rfl) ?_
    simp -implicitDefEqProofs only [go_sem]
    refine callK_fn e2 (.still rfl) ?_
    unfold prefB suffB
    cases aloneB (fun w x => x.isPrefixOf w) ws
    · simp -implicitDefEqProofs only [go_sem]
      rfl
    · simp -implicitDefEqProofs only [go_sem]
      try rfl
  · rw [if_neg h, if_neg h] at e1 e2 ⊢
    refine callK_fn e1 (.still rfl) ?_
    simp -implicitDefEqProofs only [go_sem]
    refine callK_fn e2 (.still rfl) ?_
    simp -implicitDefEqProofs only [show ¬ (1 : Int) = 0 by decide, go_sem]

theorem b42 (q : Int) (ws : List (List UInt8)) (hl : ws.length ≤ 9223372036854775807) : PFn Tryz.prog 42 [codeV q ws] [.bool (if codeCheck q ws = 0 then decide (made (revs ws) = ws) else false), .int .i64 (if codeCheck q ws = 0 then 0 else 1)] := by
  have e1 := t39 q ws
  refine PFn.of_body hΓ Tryz.func42 (by kernel_rfl) rfl (AWp.of_awpD [] hΓ hmix (by kernel_rfl) ?_)
  unfold codeV at e1 ⊢
  simp -implicitDefEqProofs only [Tryz.ntmps42, Tryz.results42, Nat.reduceAdd, Nat.reduceSub, go_sem]
  by_cases h : codeCheck q ws = 0
  · have hv := valid_of h
    have hRl : (made (revs ws)).length ≤ 9223372036854775807 := by
      have h1 := made_le (revs ws)
      have h2 : (revs ws).length = ws.length := List.length_map _
      omega
    have e24' := e24 (made (revs ws)) ws hRl
    rw [if_pos h, if_pos h] at e1 ⊢
    rw [if_pos (rev_valid hv), rev_valid hv] at e1
    refine callK_fn e1 (.still rfl) ?_
    simp -implicitDefEqProofs only [codeV, go_sem]
    refine callK_fn e24' (.still rfl) ?_
    simp -implicitDefEqProofs only [go_sem]
  · rw [if_neg h, if_neg h] at e1 ⊢
    refine callK_fn e1 (.still rfl) ?_
    simp -implicitDefEqProofs only [show ¬ (1 : Int) = 0 by decide, go_sem]

theorem b43 (q : Int) (ws : List (List UInt8)) (hl : ws.length ≤ 9223372036854775807) (hrev : PFn Tryz.prog 84 [codeV q ws] [if codeCheck q ws = 0 then codeV q (made (revs ws)) else codeV 0 [], .int .i64 (if codeCheck q ws = 0 then 0 else 1)]) :
    PFn Tryz.prog 43 [codeV q ws] [.bool (if codeCheck q ws = 0 then decide (made (revs ws) = ws) else false), .int .i64 (if codeCheck q ws = 0 then 0 else 1)] := by
  refine PFn.of_body hΓ Tryz.func43 (by kernel_rfl) rfl (AWp.of_awpD [] hΓ hmix (by kernel_rfl) ?_)
  unfold codeV at hrev ⊢
  simp -implicitDefEqProofs only [Tryz.ntmps43, Tryz.results43, Nat.reduceAdd, Nat.reduceSub, go_sem]
  by_cases h : codeCheck q ws = 0
  · have e23 := u23 q q ws (made (revs ws)) hl
    unfold codeV at e23
    rw [if_pos h, if_pos h] at hrev ⊢
    refine callK_fn hrev (.still rfl) ?_
    simp -implicitDefEqProofs only [go_sem]
    refine callK_fn e23 (.still rfl) ?_
    have e : decide (q = q ∧ ws = made (revs ws)) = decide (made (revs ws) = ws) := by
      by_cases h1 : ws = made (revs ws)
      · rw [decide_eq_true ⟨rfl, h1⟩, decide_eq_true h1.symm]
      · rw [decide_eq_false (fun h => h1 h.2), decide_eq_false (fun h => h1 h.symm)]
    rw [e]
    simp -implicitDefEqProofs only [go_sem]
  · rw [if_neg h, if_neg h] at hrev ⊢
    refine callK_fn hrev (.still rfl) ?_
    simp -implicitDefEqProofs only [show ¬ (1 : Int) = 0 by decide, go_sem]

theorem alone_iff {pr : List UInt8 → List UInt8 → Bool} {ws : List (List UInt8)} (hd : ws.Nodup) : aloneB pr ws = true ↔ ∀ x ∈ ws, ∀ y ∈ ws, pr x y = true → x = y := by
  have get : ∀ i (h : i < ws.length), ws.getD i [] = ws[i] := fun i h => by rw [List.getD_eq_getElem?_getD, List.getElem?_eq_getElem h, Option.getD_some]
  unfold aloneB aloneN aloneTo
  simp only [List.all_eq_true, List.mem_range, Bool.or_eq_true, decide_eq_true_eq, Bool.not_eq_true']
  constructor
  · intro h x hx y hy hp
    obtain ⟨i, hi, rfl⟩ := List.getElem_of_mem hx
    obtain ⟨k, hk, rfl⟩ := List.getElem_of_mem hy
    rcases h i hi k hk with e | e
    · subst e; rfl
    · rw [get i hi, get k hk, hp] at e; cases e
  · intro h i hi k hk
    by_cases e : i = k
    · exact .inl e
    · right
      rw [get i hi, get k hk]
      cases hp : pr ws[i] ws[k] with
      | false => rfl
      | true =>
        have := h _ (List.getElem_mem hi) _ (List.getElem_mem hk) hp
        have hp := List.pairwise_iff_getElem.1 (show ws.Pairwise (· ≠ ·) from hd)
        rcases Nat.lt_trichotomy i k with hik | hik | hik
        · exact absurd this (hp i k hi hk hik)
        · exact absurd hik e
        · exact absurd this.symm (hp k i hk hi hik)
theorem strict_nodup {ws : List (List UInt8)} (h : ws.Pairwise ltW) : ws.Nodup := List.Pairwise.imp (fun {a b} (hab : ltW a b) (e : a = b) => ltW_irrefl b (by rw [e] at hab; exact hab)) h
theorem mem_revs {ws : List (List UInt8)} {x : List UInt8} : x ∈ made (revs ws) ↔ x.reverse ∈ ws := by
  rw [mem_made]
  unfold revs
  rw [List.mem_map]
  constructor
  · rintro ⟨a, ha, rfl⟩; simpa using ha
  · intro h; exact ⟨_, h, by simp⟩
/-- A suffix code exactly if the reversed one is a prefix code. -/
theorem alone_rev {ws : List (List UInt8)} (hs : ws.Pairwise ltW) : prefB (made (revs ws)) = suffB ws := by
  have h1 := alone_iff (pr := fun w x => x.isPrefixOf w) (strict_nodup (made_strict (revs ws)))
  have h2 := alone_iff (pr := fun w x => x.isSuffixOf w) (strict_nodup hs)
  unfold prefB suffB
  rw [Bool.eq_iff_iff, h1, h2]
  constructor
  · intro h x hx y hy hp
    have := h x.reverse (mem_revs.2 (by simpa using hx)) y.reverse (mem_revs.2 (by simpa using hy)) (List.isPrefixOf_iff_prefix.2 (List.reverse_prefix.2 (List.isSuffixOf_iff_suffix.1 hp)))
    simpa using congrArg List.reverse this
  · intro h x hx y hy hp
    have := h x.reverse (mem_revs.1 hx) y.reverse (mem_revs.1 hy) (List.isSuffixOf_iff_suffix.2 (List.reverse_suffix.2 (List.isPrefixOf_iff_prefix.1 hp)))
    simpa using congrArg List.reverse this
theorem Valid.strict {q : Int} {ws : List (List UInt8)} (hv : Valid q ws) : ws.Pairwise ltW := List.pairwise_iff_getElem.2 fun i j hi hj hij => by
  have := hv.lt i j hij hj
  rwa [List.getD_eq_getElem?_getD, List.getD_eq_getElem?_getD, List.getElem?_eq_getElem hi, List.getElem?_eq_getElem hj, Option.getD_some, Option.getD_some] at this
theorem made_revs_revs {ws : List (List UInt8)} (hs : ws.Pairwise ltW) : made (revs (made (revs ws))) = ws :=
  strict_unique (made_strict _) hs fun x => by rw [mem_revs, mem_revs, List.reverse_reverse]

theorem b10 (q : Int) (ws : List (List UInt8)) (hws : ws.length ≤ 9223372036854775807) : PFn Tryz.prog 10 [codeV q ws] [.bool true] := by
  have eg := t11 q ws hws
  have ec := t44 q ws
  refine PFn.of_body hΓ Tryz.func10 (by kernel_rfl) rfl (AWp.seq (AWp.of_awpD [] hΓ hmix (by kernel_rfl) ?_))
  simp -implicitDefEqProofs only [Tryz.ntmps10, Tryz.results10, Nat.reduceAdd, Nat.reduceSub, codeV, go_sem]
  have awake : ∀ {Q : AV → Prop}, Q (.p (.bool true)) → True := fun _ => trivial
  unfold codeV at eg ec
  cases hg : (greatC ws || ws.any greatW)
  rotate_left
  · rw [hg] at eg
    refine AWp.seq ?_
    refine AWp.of_awpD [] hΓ hmix (by kernel_rfl) ?_
    simp -implicitDefEqProofs only [go_sem]
    refine callK_fn eg (.still rfl) ?_
    simp -implicitDefEqProofs only [go_sem]
    refine callK_fn awake_ok (.pures rfl) ?_
    simp -implicitDefEqProofs only [go_sem]
  rw [hg] at eg
  by_cases h : codeCheck q ws = 0
  rotate_left
  · refine AWp.seq ?_
    refine AWp.of_awpD [] hΓ hmix (by kernel_rfl) ?_
    simp -implicitDefEqProofs only [go_sem]
    refine callK_fn eg (.still rfl) ?_
    simp -implicitDefEqProofs only [go_sem]
    refine callK_fn ec (.still rfl) ?_
    simp -implicitDefEqProofs only [h, go_sem]
    refine callK_fn awake_ok (.pures rfl) ?_
    simp -implicitDefEqProofs only [go_sem]
  have hv := valid_of h
  have hvr := valid_of (rev_valid hv)
  have hr := rev_valid hv
  rw [h] at ec
  have e40 := b40 q ws
  have e42 := b42 q ws hws
  have e45 := t39 q ws
  have e15 := t38 q ws
  have hRl : (made (revs ws)).length ≤ 9223372036854775807 := by
    have h1 := made_le (revs ws)
    have h2 : (revs ws).length = ws.length := List.length_map _
    omega
  have e15' := t38 q (made (revs ws))
  have e42' := b42 q (made (revs ws)) hRl
  have e23 := u23 q q ws (made (revs ws)) hws
  rw [if_pos h, if_pos h] at e40 e42 e15
  rw [if_pos h, if_pos h, if_pos hr, hr] at e45
  rw [if_pos hr, if_pos hr] at e42' e15'
  rw [made_revs_revs hv.strict] at e42'
  have hp : aloneB (fun w x => x.isPrefixOf w) (made (revs ws)) = suffB ws := alone_rev hv.strict
  rw [hp] at e15'
  rw [show aloneB (fun w x => x.isPrefixOf w) ws = prefB ws from rfl] at e15
  have hsw : decide (ws = made (revs ws)) = decide (made (revs ws) = ws) := by
    by_cases h1 : ws = made (revs ws)
    · rw [decide_eq_true h1, decide_eq_true h1.symm]
    · rw [decide_eq_false h1, decide_eq_false (fun h => h1 h.symm)]
  have hsw2 : decide (q = q ∧ ws = made (revs ws)) = decide (made (revs ws) = ws) := by rw [← hsw]; simp
  rw [hsw] at e42'
  rw [hsw2] at e23
  have hkey : decide (made (revs ws) = ws) = true → prefB ws = suffB ws := fun hd => by
    have hd := of_decide_eq_true hd
    rw [← alone_rev hv.strict, hd]
  generalize made (revs ws) = R at *
  generalize decide (R = ws) = S at *
  generalize prefB ws = A at *
  generalize suffB ws = B at *
  unfold codeV at e40 e42 e45 e15 e15' e42' e23
  refine AWp.seq ?_
  refine AWp.of_awpD [] hΓ hmix (by kernel_rfl) ?_
  simp -implicitDefEqProofs only [go_sem]
  refine callK_fn eg (.still rfl) ?_
  simp -implicitDefEqProofs only [go_sem]
  refine callK_fn ec (.still rfl) ?_
  simp -implicitDefEqProofs only [go_sem]
  refine AWp.of_awpD [] hΓ hmix (by kernel_rfl) ?_
  simp -implicitDefEqProofs only [go_sem]
  refine callK_fn e40 (.still rfl) ?_
  simp -implicitDefEqProofs only [go_sem]
  refine callK_fn e42 (.still rfl) ?_
  simp -implicitDefEqProofs only [go_sem]
  refine callK_fn e45 (.still rfl) ?_
  simp -implicitDefEqProofs only [go_sem]
  refine callK_fn e15 (.still rfl) ?_
  simp -implicitDefEqProofs only [go_sem]
  refine callK_fn e15' (.still rfl) ?_
  simp -implicitDefEqProofs only [go_sem]
  refine callK_fn e42' (.still rfl) ?_
  have fin : ((A && B) == (A && B)) = true := by simp
  rcases (by cases A <;> cases B <;> cases S <;> simp at hkey ⊢ : (S = false) ∨ (S = true ∧ A = B)) with rfl | ⟨rfl, rfl⟩
  · cases A <;> cases B
    all_goals
      simp -implicitDefEqProofs only [ite_self, beq_self_eq_true, show (false == true) = false by decide, show (true == false) = false by decide, show (false != false) = false by decide, show (true != true) = false by decide, go_sem]
      refine callK_fn e23 (.still rfl) ?_
      simp -implicitDefEqProofs only [ite_self, beq_self_eq_true, show (false == true) = false by decide, show (true == false) = false by decide, show (false != false) = false by decide, show (true != true) = false by decide, go_sem]
      refine callK_fn awake_ok (.pures rfl) ?_
      simp -implicitDefEqProofs only [go_sem]
  · cases A
    all_goals
      simp -implicitDefEqProofs only [ite_self, beq_self_eq_true, show (false == true) = false by decide, show (true == false) = false by decide, show (false != false) = false by decide, show (true != true) = false by decide, go_sem]
      refine callK_fn e23 (.still rfl) ?_
      simp -implicitDefEqProofs only [ite_self, beq_self_eq_true, show (false == true) = false by decide, show (true == false) = false by decide, show (false != false) = false by decide, show (true != true) = false by decide, go_sem]
      refine callK_fn awake_ok (.pures rfl) ?_
      simp -implicitDefEqProofs only [go_sem]
end Go.Proofs.YtjjedaikbgfmmaaGreat
end

