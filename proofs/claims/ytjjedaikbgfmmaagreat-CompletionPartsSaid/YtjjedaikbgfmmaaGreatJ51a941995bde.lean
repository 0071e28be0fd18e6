/-
  The reference's Sorted: words put in one by one.
  Prefix and Suffix of the reference, Suffix, Longest, Same, Make of the reference.
  Bifix, Symmetric; the law CompletionBifix.
  The reference's Prune.
  The reference's turned, Reverse, Digit; Compose of both.
  The law CompletionParts.
-/
import Derived.Test.YtjjedaikbgfmmaaGreatJ179ddf9a55e5

section
namespace Go.Proofs.YtjjedaikbgfmmaaGreat
open Go Go.AM
set_option maxRecDepth 100000
set_option linter.unusedSimpArgs false

/-- Sorted's memory: held is the list so far, or nobody's. -/
def stH (m : Nat) (o : Bool) (l : List (List UInt8)) : List AObj := List.replicate m .dead ++ [if o then .row 9 1 (l.map .str) .lax else .dead]
def stV (m : Nat) (o : Bool) (l : List (List UInt8)) : AV := if o then .own m l.length else .p (.sl (l.map .str))

theorem weakH_snoc {a b : AObj} (h : b = .dead ∨ b = a ∨ laxer a b) : ∀ H : List AObj, weakH (H ++ [a]) (H ++ [b])
  | [] => ⟨h, trivial⟩
  | _ :: H => ⟨.inr (.inl rfl), weakH_snoc h H⟩

/-- A word put in where it belongs. -/
def putAt (l : List (List UInt8)) (k : Nat) (w : List UInt8) : List (List UInt8) := l.take k ++ [w] ++ l.drop k
theorem putAt_strict {l : List (List UInt8)} {k : Nat} {w : List UInt8} (hp : l.Pairwise ltW) (hk : k ≤ l.length) (hlow : ∀ j, j < k → cmpW (l.getD j []) w < 0) (hup : k < l.length → ltW w (l.getD k [])) : (putAt l k w).Pairwise ltW := by
  have h1 := List.pairwise_iff_getElem.1 hp
  unfold putAt
  rw [List.append_assoc, List.pairwise_append]
  refine ⟨hp.sublist (List.take_sublist k l), ?_, fun x hx y hy => ?_⟩
  · rw [List.singleton_append, List.pairwise_cons]
    refine ⟨fun y hy => ?_, hp.sublist (List.drop_sublist k l)⟩
    obtain ⟨j, hj, rfl⟩ := List.getElem_of_mem hy
    rw [List.getElem_drop]
    rw [List.length_drop] at hj
    have h2 := hup (by omega)
    rw [List.getD_eq_getElem?_getD, List.getElem?_eq_getElem (by omega), Option.getD_some] at h2
    by_cases e : j = 0
    · subst e; exact h2
    · exact ltW_trans h2 (h1 k (k + j) (by omega) (by omega) (by omega))
  · obtain ⟨j, hj, rfl⟩ := List.mem_take_iff_getElem.1 hx
    have hjk : j < k := by omega
    have hjl : j < l.length := by omega
    have h3 := hlow j hjk
    rw [List.getD_eq_getElem?_getD, List.getElem?_eq_getElem hjl, Option.getD_some] at h3
    rcases List.mem_cons.1 (by simpa using hy) with rfl | hy
    · exact (ltW_iff _ _).1 h3
    · obtain ⟨q, hq, rfl⟩ := List.getElem_of_mem hy
      rw [List.getElem_drop]
      rw [List.length_drop] at hq
      exact h1 j (k + q) hjl (by omega) (by omega)
theorem mem_putAt {l : List (List UInt8)} {k : Nat} {w x : List UInt8} : x ∈ putAt l k w ↔ x ∈ l ∨ x = w := by
  unfold putAt
  conv => rhs; rw [← List.take_append_drop k l]
  simp only [List.mem_append, List.mem_singleton]
  constructor
  · rintro ((h | h) | h)
    · exact .inl (.inl h)
    · exact .inr h
    · exact .inl (.inr h)
  · rintro ((h | h) | h)
    · exact .inl (.inl h)
    · exact .inr h
    · exact .inl (.inr h)
theorem putAt_len {l : List (List UInt8)} {k : Nat} {w : List UInt8} (hk : k ≤ l.length) : (putAt l k w).length = l.length + 1 := by
  unfold putAt; simp; omega

theorem stH_false (m : Nat) (l : List (List UInt8)) : stH m false l = List.replicate (m + 1) .dead := by simp [stH, List.replicate_succ']

theorem u50 (ws : List (List UInt8)) (hl : ws.length ≤ 1000000) : PFn Tryz.prog 109 [.sl (ws.map .str)] [.sl ((made ws).map .str)] := by
  refine PFn.of_body hΓ Tryz.func109 (by kernel_rfl) rfl (AWp.of_awpD [] hΓ hmix (by kernel_rfl) ?_)
  simp -implicitDefEqProofs only [Tryz.ntmps109, Tryz.results109, Nat.reduceAdd, Nat.reduceSub, go_sem]
  refine AWp.adopt (l := []) 3 9 1 (by rfl) (by simp) ?_
  simp -implicitDefEqProofs only [go_sem]
  refine AWp.loopI (fun x : Nat × List (List UInt8) × Nat × Bool => ⟨mkF 60 [(0, .p (.sl (ws.map .str))), (3, stV x.2.2.1 x.2.2.2 x.2.1), (4, .p (.int .i64 x.1))], stH x.2.2.1 x.2.2.2 x.2.1⟩)
    (fun x => x.1 ≤ ws.length ∧ x.2.1.length ≤ x.1 ∧ x.2.1.Pairwise ltW ∧ (∀ v, v ∈ x.2.1 ↔ v ∈ ws.take x.1)) (fun x => ws.length - x.1) (0, [], 0, true) (by simp [go_sem, stV, stH]) (by simp) ?_
  rintro ⟨i, l, m, o⟩ ⟨hi, hli, hp, hm⟩
  simp only at hi hli hp hm
  refine AWp.freezeIf (E := 9) (s := 1) (k := .lax) (xs := l.map .str) o m (by rintro rfl; simp [stH]) ?_
  have e : ∀ st : St, st = ⟨mkF 60 [(0, .p (.sl (ws.map .str))), (3, stV m o l), (4, .p (.int .i64 i))], stH m o l⟩ → (if o = true then Frozen st m (l.map .str) else st) = ⟨mkF 60 [(0, .p (.sl (ws.map .str))), (3, .p (.sl (l.map .str))), (4, .p (.int .i64 i))], List.replicate (m + 1) .dead⟩ := by
    rintro _ rfl
    cases o
    · simp [stV, stH_false]
    · simp [Frozen, go_sem, stV, stH, List.replicate_succ', AV.thaw, AObj.thaw]
  rw [e _ rfl]
  clear e
  obtain ⟨H, hH⟩ : ∃ H : List AObj, H = List.replicate (m + 1) .dead := ⟨_, rfl⟩
  have hHl : H.length = m + 1 := by rw [hH]; simp
  have hK : H.map (AObj.kill (m + 1)) = H := by rw [hH]; simp [AObj.kill]
  rw [← hH]
  have gL : ∀ o : AObj, (H ++ [o])[H.length]? = some o := fun o => by simp
  have sL : ∀ o o' : AObj, (H ++ [o]).set H.length o' = H ++ [o'] := fun o o' => by simp
  have hKL : H.map (AObj.kill H.length) = H := by rw [hHl]; exact hK
  refine AWp.of_awpD [(8, 15), (9, 1000)] hΓ hmix (by kernel_rfl) ?_
  by_cases hlt : i < ws.length
  · simp -implicitDefEqProofs only [hlt, getD_map_lt, ↓reduceIte, go_sem]
    refine AWp.loopI (fun k : Nat => ⟨mkF 60 [(0, .p (.sl (ws.map .str))), (3, .p (.sl (l.map .str))), (4, .p (.int .i64 i)), (5, .p (.int .i64 k))], H⟩)
      (fun k => k ≤ l.length ∧ ∀ j, j < k → cmpW (l.getD j []) ws[i] < 0) (fun k => l.length - k) 0 (by simp [go_sem, weakH_self]) (by simp) ?_
    rintro k ⟨hk, hlow⟩
    refine AWp.of_awpD [(6, 15)] hΓ hmix (by kernel_rfl) ?_
    by_cases hkl : k < l.length
    · simp -implicitDefEqProofs only [hlt, hkl, getD_map_lt, ↓reduceIte, go_sem]
      refine callVPK_fn (t79' l[k] ws[i]) (.pures rfl) ?_
      by_cases hc : cmpW l[k] ws[i] < 0
      · simp -implicitDefEqProofs only [hlt, hkl, hc, decide_true, getD_map_lt, ↓reduceIte, go_sem]
        refine ⟨by simp only [InR]; omega, k + 1, ⟨by omega, weakH_self _⟩, ⟨by omega, fun j hj => ?_⟩, by omega⟩
        by_cases hjk : j = k
        · subst hjk
          rw [List.getD_eq_getElem?_getD, List.getElem?_eq_getElem hkl, Option.getD_some]; exact hc
        · exact hlow j (by omega)
      · by_cases he : l[k] = ws[i]
        · have hc' : ¬ cmpW ws[i] ws[i] < 0 := by rw [he] at hc; exact hc
          simp -implicitDefEqProofs only [hlt, hkl, hc', decide_false, he, getD_map_lt, ↓reduceIte, go_sem]
          refine ⟨by simp only [InR]; omega, (i + 1, l, m, false), ⟨⟨.inr (by simp [stV]), by simp⟩, ?_⟩, ⟨by simp only; omega, by simp only; omega, hp, fun v => ?_⟩, by simp only; omega⟩
          · simp only [stH_false]; rw [← hH]; exact weakH_self _
          · rw [hm, List.take_succ_eq_append_getElem hlt, List.mem_append, List.mem_singleton]
            refine ⟨.inl, fun h => h.elim id fun h => ?_⟩
            subst h
            exact (hm _).1 (by rw [← he]; exact List.getElem_mem hkl)
        · simp -implicitDefEqProofs only [hlt, hkl, hc, decide_false, he, getD_map_lt, ↓reduceIte, go_sem]
          have hup : k < l.length → ltW ws[i] (l.getD k []) := fun _ => by
            rw [List.getD_eq_getElem?_getD, List.getElem?_eq_getElem hkl, Option.getD_some]
            apply Classical.byContradiction
            intro hno
            exact he (ltW_total (fun h => hc ((ltW_iff _ _).2 h)) hno)
          refine AWp.planL (.q 0 (.q 1 (.q 2 (.q 3 (.q 5 (.q 6 (.q 7 (.q 8 (.q 9 (.q 11 (.q 12 (.q 13 (.e 4 (.s 5 (.s 6 (.s 7 (.s 8 (.s 9 (.s 11 (.s 12 (.s 13 (.e 10 (.s 11 (.s 12 (.s 13 (.e 14 (.q 15 .fin) .nil)))) .nil))))))))) .nil))))))))))))) hΓ hmix (by kernel_rfl) ?_
          simp -implicitDefEqProofs only [hlt, hkl, getD_map_lt, ↓reduceIte, gL, sL, hKL, go_sem]
          have hpl := putAt_strict hp hk hlow hup
          have hlen := putAt_len (w := ws[i]) hk
          have hmem : ∀ v, v ∈ putAt l k ws[i] ↔ v ∈ ws.take (i + 1) := fun v => by
            rw [mem_putAt, hm, List.take_succ_eq_append_getElem hlt, List.mem_append, List.mem_singleton]
          have ht : (l.take k).length = k := by simp; omega
          have hd : (l.drop k).length = l.length - k := by simp
          rw [← List.map_take, ← List.map_drop]
          generalize hrk : (if (List.map PV.str (List.take k l)).isEmpty = true then RK.lax else RK.own) = rk1
          have hr1 : rk1 ≠ .raw := by rw [← hrk]; split <;> simp
          simp only [List.map_append, hKL, List.map_cons, List.map_nil, AObj.kill, sL, gL, List.isEmpty_cons, Bool.false_eq_true, if_false, List.length_map]
          refine ⟨⟨by simp [sizeOK], by omega⟩, size_str _, by omega, ⟨size_str [ws[i]], by omega⟩, size_str _, by omega, ⟨size_str _, one_str _⟩, ⟨by simp [sizeOK], by omega, by omega⟩, ⟨size_str [ws[i]], by omega⟩, ⟨size_str _, by omega⟩, ⟨size_str [ws[i]], one_str [ws[i]]⟩, ⟨hr1, .inl (by omega), by omega, by omega⟩, ⟨size_str _, by omega⟩, ⟨size_str _, one_str _⟩, ⟨by simp, .inl (by omega), trivial, trivial, by omega, by omega⟩, by simp only [InR]; omega,
            (i + 1, putAt l k ws[i], m + 1, true), ⟨⟨.inr ?_, by simp⟩, ?_⟩, ⟨by simp only; omega, by simp only; omega, hpl, hmem⟩, by simp only; omega⟩
          · simp only [stV, if_true]
            rw [hHl]; congr 1; omega
          · simp only [stH, if_true]
            rw [← hH]
            have e3 : (putAt l k ws[i]).map PV.str = List.map PV.str (List.take k l) ++ [PV.str ws[i]] ++ List.map PV.str (List.drop k l) := by simp [putAt]
            rw [e3]
            refine weakH_snoc ?_ H
            by_cases hb : (List.map PV.str (List.drop k l)).isEmpty = true
            · rw [if_pos hb]; exact .inr (.inr rfl)
            · rw [if_neg hb]; exact .inr (.inr rfl)
    · simp -implicitDefEqProofs only [hlt, hkl, getD_map_lt, ↓reduceIte, go_sem]
      have hup : k < l.length → ltW ws[i] (l.getD k []) := fun h => absurd h hkl
      refine AWp.planL (.q 0 (.q 1 (.q 2 (.q 3 (.q 5 (.q 6 (.q 7 (.q 8 (.q 9 (.q 11 (.q 12 (.q 13 (.e 4 (.s 5 (.s 6 (.s 7 (.s 8 (.s 9 (.s 11 (.s 12 (.s 13 (.e 10 (.s 11 (.s 12 (.s 13 (.e 14 (.q 15 .fin) .nil)))) .nil))))))))) .nil))))))))))))) hΓ hmix (by kernel_rfl) ?_
      simp -implicitDefEqProofs only [hlt, hkl, getD_map_lt, ↓reduceIte, gL, sL, hKL, go_sem]
      have hpl := putAt_strict hp hk hlow hup
      have hlen := putAt_len (w := ws[i]) hk
      have hmem : ∀ v, v ∈ putAt l k ws[i] ↔ v ∈ ws.take (i + 1) := fun v => by
        rw [mem_putAt, hm, List.take_succ_eq_append_getElem hlt, List.mem_append, List.mem_singleton]
      have ht : (l.take k).length = k := by simp; omega
      have hd : (l.drop k).length = l.length - k := by simp
      rw [← List.map_take, ← List.map_drop]
      generalize hrk : (if (List.map PV.str (List.take k l)).isEmpty = true then RK.lax else RK.own) = rk1
      have hr1 : rk1 ≠ .raw := by rw [← hrk]; split <;> simp
      simp only [List.map_append, hKL, List.map_cons, List.map_nil, AObj.kill, sL, gL, List.isEmpty_cons, Bool.false_eq_true, if_false, List.length_map]
      refine ⟨⟨by simp [sizeOK], by omega⟩, size_str _, by omega, ⟨size_str [ws[i]], by omega⟩, size_str _, by omega, ⟨size_str _, one_str _⟩, ⟨by simp [sizeOK], by omega, by omega⟩, ⟨size_str [ws[i]], by omega⟩, ⟨size_str _, by omega⟩, ⟨size_str [ws[i]], one_str [ws[i]]⟩, ⟨hr1, .inl (by omega), by omega, by omega⟩, ⟨size_str _, by omega⟩, ⟨size_str _, one_str _⟩, ⟨by simp, .inl (by omega), trivial, trivial, by omega, by omega⟩, by simp only [InR]; omega,
        (i + 1, putAt l k ws[i], m + 1, true), ⟨⟨.inr ?_, by simp⟩, ?_⟩, ⟨by simp only; omega, by simp only; omega, hpl, hmem⟩, by simp only; omega⟩
      · simp only [stV, if_true]
        rw [hHl]; congr 1; omega
      · simp only [stH, if_true]
        rw [← hH]
        have e3 : (putAt l k ws[i]).map PV.str = List.map PV.str (List.take k l) ++ [PV.str ws[i]] ++ List.map PV.str (List.drop k l) := by simp [putAt]
        rw [e3]
        refine weakH_snoc ?_ H
        by_cases hb : (List.map PV.str (List.drop k l)).isEmpty = true
        · rw [if_pos hb]; exact .inr (.inr rfl)
        · rw [if_neg hb]; exact .inr (.inr rfl)
  · simp -implicitDefEqProofs only [hlt, go_sem]
    rw [List.take_of_length_le (by omega)] at hm
    rw [made_of hp (fun x => (hm x).symm)]
end Go.Proofs.YtjjedaikbgfmmaaGreat
end

section
namespace Go.Proofs.YtjjedaikbgfmmaaGreat
open Go Go.AM
set_option maxRecDepth 100000
set_option linter.unusedSimpArgs false

theorem u52 (w x : List UInt8) : PFn Tryz.prog 124 [.str w, .str x] [.bool (x.isPrefixOf w)] := by
  refine PFn.of_body hΓ Tryz.func124 (by kernel_rfl) rfl (AWp.of_awpD [] hΓ hmix (by kernel_rfl) ?_)
  simp +contextual -implicitDefEqProofs only [Tryz.ntmps124, Tryz.results124, Nat.reduceAdd, Nat.reduceSub, go_sem]
  refine ⟨fun h => ?_, fun h => ?_⟩
  · rw [Bool.eq_iff_iff, List.isPrefixOf_iff_prefix, List.prefix_iff_eq_take, decide_eq_true_eq]; exact eq_comm
  · rw [Bool.eq_iff_iff, List.isPrefixOf_iff_prefix]
    exact ⟨fun h => by simp at h, fun h' => absurd h'.length_le (by omega)⟩
theorem u54 (w x : List UInt8) (hw : w.length ≤ 9223372036854775807) : PFn Tryz.prog 125 [.str w, .str x] [.bool (x.isSuffixOf w)] := by
  refine PFn.of_body hΓ Tryz.func125 (by kernel_rfl) rfl (AWp.of_awpD [] hΓ hmix (by kernel_rfl) ?_)
  simp +contextual -implicitDefEqProofs only [Tryz.ntmps125, Tryz.results125, Nat.reduceAdd, Nat.reduceSub, go_sem]
  refine ⟨fun h => ⟨by simp only [InR]; omega, by omega, ?_⟩, fun h => ?_⟩
  · rw [Bool.eq_iff_iff, List.isSuffixOf_iff_suffix, List.suffix_iff_eq_drop, decide_eq_true_eq, show ((w.length : Int) - x.length).toNat = w.length - x.length by omega]; exact eq_comm
  · rw [Bool.eq_iff_iff, List.isSuffixOf_iff_suffix]
    exact ⟨fun h => by simp at h, fun h' => absurd h'.length_le (by omega)⟩
theorem u86 (w x : List UInt8) (hw : w.length ≤ 9223372036854775807) : PFn Tryz.prog 128 [.str w, .str x] [.bool (x.isSuffixOf w)] := by
  refine PFn.of_body hΓ Tryz.func128 (by kernel_rfl) rfl (AWp.of_awpD [] hΓ hmix (by kernel_rfl) ?_)
  simp +contextual -implicitDefEqProofs only [Tryz.ntmps128, Tryz.results128, Nat.reduceAdd, Nat.reduceSub, go_sem]
  refine ⟨fun h => ⟨by simp only [InR]; omega, by omega, ?_⟩, fun h => ?_⟩
  · rw [Bool.eq_iff_iff, List.isSuffixOf_iff_suffix, List.suffix_iff_eq_drop, decide_eq_true_eq, show ((w.length : Int) - x.length).toNat = w.length - x.length by omega]; exact eq_comm
  · rw [Bool.eq_iff_iff, List.isSuffixOf_iff_suffix]
    exact ⟨fun h => by simp at h, fun h' => absurd h'.length_le (by omega)⟩
theorem u53 (w x : List UInt8) (hw : w.length ≤ 9223372036854775807) : PFn Tryz.prog 90 [.str w, .str x] [.bool (x.isSuffixOf w)] := by
  refine PFn.of_body hΓ Tryz.func90 (by kernel_rfl) rfl (AWp.of_awpD [] hΓ hmix (by kernel_rfl) ?_)
  simp +contextual -implicitDefEqProofs only [Tryz.ntmps90, Tryz.results90, Nat.reduceAdd, Nat.reduceSub, go_sem]
  refine callK_fn (u86 w x hw) (.pures rfl) ?_
  simp +contextual -implicitDefEqProofs only [go_sem]

theorem u17 (q : Int) (ws : List (List UInt8)) : PFn Tryz.prog 46 [codeV q ws] [.bool (if codeCheck q ws = 0 then aloneB (fun w x => x.isSuffixOf w) ws else false), .int .i64 (if codeCheck q ws = 0 then 0 else 1)] := by
  refine PFn.of_body hΓ Tryz.func46 (by kernel_rfl) rfl (AWp.of_awpD [] hΓ hmix (by kernel_rfl) ?_)
  simp +contextual -implicitDefEqProofs only [codeV, Tryz.ntmps46, Tryz.results46, Nat.reduceAdd, Nat.reduceSub, go_sem]
  refine callK_ac (c68 q ws u53) (by simp) ?_
  rintro v h' ⟨rfl, rfl⟩
  simp -implicitDefEqProofs only [killAll, List.foldl, codeB, go_sem]

theorem u16 (q : Int) (ws : List (List UInt8)) : PFn Tryz.prog 85 [codeV q ws] [.bool (if codeCheck q ws = 0 then aloneB (fun w x => x.isPrefixOf w) ws else false), .int .i64 (if codeCheck q ws = 0 then 0 else 1)] := by
  refine PFn.of_body hΓ Tryz.func85 (by kernel_rfl) rfl (AWp.of_awpD [] hΓ hmix (by kernel_rfl) ?_)
  simp +contextual -implicitDefEqProofs only [codeV, Tryz.ntmps85, Tryz.results85, Nat.reduceAdd, Nat.reduceSub, go_sem]
  refine callK_fn (t44 q ws) (.still rfl) ?_
  by_cases h : codeCheck q ws = 0
  · have hv := valid_of h
    have hws := hv.len
    rw [h]
    simp -implicitDefEqProofs only [go_sem]
    refine AWp.loopI (fun i : Nat => ⟨mkF 39 [(1, .ptr 0 0), (2, .p (.bool false)), (3, .p (.int .i64 0)), (4, .p (.int .i64 i))], [codeB q ws]⟩)
      (fun i => i ≤ ws.length ∧ aloneN (fun w x => x.isPrefixOf w) ws i = true) (fun i => ws.length - i) 0 (by simp [go_sem, codeB]) ⟨by omega, rfl⟩ ?_
    rintro i ⟨hi, hal⟩
    refine AWp.of_awpD [] hΓ hmix (by kernel_rfl) ?_
    by_cases hlt : i < ws.length
    · simp -implicitDefEqProofs only [hlt, getD_map_lt, ↓reduceIte, codeB, go_sem]
      refine AWp.loopI (fun k : Nat => ⟨mkF 39 [(1, .ptr 0 0), (2, .p (.bool false)), (3, .p (.int .i64 0)), (4, .p (.int .i64 i)), (5, .p (.int .i64 k))], [codeB q ws]⟩)
        (fun k => k ≤ ws.length ∧ aloneTo (fun w x => x.isPrefixOf w) ws i k = true) (fun k => ws.length - k) 0 (by simp [go_sem, codeB]) ⟨by omega, rfl⟩ ?_
      rintro k ⟨hk, hal2⟩
      refine AWp.of_awpD [(9, 16)] hΓ hmix (by kernel_rfl) ?_
      have hwi : ws.getD i [] = ws[i] := by rw [List.getD_eq_getElem?_getD, List.getElem?_eq_getElem hlt, Option.getD_some]
      have hsh : ws[i].length ≤ 9223372036854775807 := by have := hv.short i hlt; rw [hwi] at this; omega
      by_cases hlt2 : k < ws.length
      · have hwk : ws.getD k [] = ws[k] := by rw [List.getD_eq_getElem?_getD, List.getElem?_eq_getElem hlt2, Option.getD_some]
        by_cases he : (i : Int) = k
        · simp -implicitDefEqProofs only [hlt2, he, getD_map_lt, ↓reduceIte, codeB, go_sem]
          refine ⟨by simp only [InR]; omega, k + 1, by omega, ⟨hlt2, ?_⟩, by omega⟩
          rw [aloneTo_succ, hal2, decide_eq_true (by omega)]; rfl
        · simp -implicitDefEqProofs only [hlt, hlt2, he, getD_map_lt, ↓reduceIte, codeB, go_sem]
          refine callVPK_fn (u52 ws[i] ws[k]) (.pures rfl) ?_
          cases hp : ws[k].isPrefixOf ws[i]
          · simp -implicitDefEqProofs only [hlt, hlt2, he, getD_map_lt, ↓reduceIte, codeB, go_sem]
            refine ⟨by simp only [InR]; omega, k + 1, by omega, ⟨hlt2, ?_⟩, by omega⟩
            rw [aloneTo_succ, hal2, hwi, hwk, hp]; simp
          · simp -implicitDefEqProofs only [hlt, hlt2, he, getD_map_lt, ↓reduceIte, codeB, go_sem]
            rw [alone_bad hlt hlt2 (by omega) (by rw [hwi, hwk]; exact hp)]
      · simp -implicitDefEqProofs only [hlt2, codeB, go_sem]
        refine ⟨by simp only [InR]; omega, i + 1, by omega, ⟨hlt, ?_⟩, by omega⟩
        rw [aloneN_succ, hal, show ws.length = k by omega, hal2]; rfl
    · simp -implicitDefEqProofs only [hlt, codeB, go_sem]
      rw [show i = ws.length by omega] at hal; exact hal.symm
  · simp -implicitDefEqProofs only [h, go_sem]

theorem u18 (q : Int) (ws : List (List UInt8)) : PFn Tryz.prog 86 [codeV q ws] [.bool (if codeCheck q ws = 0 then aloneB (fun w x => x.isSuffixOf w) ws else false), .int .i64 (if codeCheck q ws = 0 then 0 else 1)] := by
  refine PFn.of_body hΓ Tryz.func86 (by kernel_rfl) rfl (AWp.of_awpD [] hΓ hmix (by kernel_rfl) ?_)
  simp +contextual -implicitDefEqProofs only [codeV, Tryz.ntmps86, Tryz.results86, Nat.reduceAdd, Nat.reduceSub, go_sem]
  refine callK_fn (t44 q ws) (.still rfl) ?_
  by_cases h : codeCheck q ws = 0
  · have hv := valid_of h
    have hws := hv.len
    rw [h]
    simp -implicitDefEqProofs only [go_sem]
    refine AWp.loopI (fun i : Nat => ⟨mkF 39 [(1, .ptr 0 0), (2, .p (.bool false)), (3, .p (.int .i64 0)), (4, .p (.int .i64 i))], [codeB q ws]⟩)
      (fun i => i ≤ ws.length ∧ aloneN (fun w x => x.isSuffixOf w) ws i = true) (fun i => ws.length - i) 0 (by simp [go_sem, codeB]) ⟨by omega, rfl⟩ ?_
    rintro i ⟨hi, hal⟩
    refine AWp.of_awpD [] hΓ hmix (by kernel_rfl) ?_
    by_cases hlt : i < ws.length
    · simp -implicitDefEqProofs only [hlt, getD_map_lt, ↓reduceIte, codeB, go_sem]
      refine AWp.loopI (fun k : Nat => ⟨mkF 39 [(1, .ptr 0 0), (2, .p (.bool false)), (3, .p (.int .i64 0)), (4, .p (.int .i64 i)), (5, .p (.int .i64 k))], [codeB q ws]⟩)
        (fun k => k ≤ ws.length ∧ aloneTo (fun w x => x.isSuffixOf w) ws i k = true) (fun k => ws.length - k) 0 (by simp [go_sem, codeB]) ⟨by omega, rfl⟩ ?_
      rintro k ⟨hk, hal2⟩
      refine AWp.of_awpD [(9, 16)] hΓ hmix (by kernel_rfl) ?_
      have hwi : ws.getD i [] = ws[i] := by rw [List.getD_eq_getElem?_getD, List.getElem?_eq_getElem hlt, Option.getD_some]
      have hsh : ws[i].length ≤ 9223372036854775807 := by have := hv.short i hlt; rw [hwi] at this; omega
      by_cases hlt2 : k < ws.length
      · have hwk : ws.getD k [] = ws[k] := by rw [List.getD_eq_getElem?_getD, List.getElem?_eq_getElem hlt2, Option.getD_some]
        by_cases he : (i : Int) = k
        · simp -implicitDefEqProofs only [hlt2, he, getD_map_lt, ↓reduceIte, codeB, go_sem]
          refine ⟨by simp only [InR]; omega, k + 1, by omega, ⟨hlt2, ?_⟩, by omega⟩
          rw [aloneTo_succ, hal2, decide_eq_true (by omega)]; rfl
        · simp -implicitDefEqProofs only [hlt, hlt2, he, getD_map_lt, ↓reduceIte, codeB, go_sem]
          refine callVPK_fn (u54 ws[i] ws[k] hsh) (.pures rfl) ?_
          cases hp : ws[k].isSuffixOf ws[i]
          · simp -implicitDefEqProofs only [hlt, hlt2, he, getD_map_lt, ↓reduceIte, codeB, go_sem]
            refine ⟨by simp only [InR]; omega, k + 1, by omega, ⟨hlt2, ?_⟩, by omega⟩
            rw [aloneTo_succ, hal2, hwi, hwk, hp]; simp
          · simp -implicitDefEqProofs only [hlt, hlt2, he, getD_map_lt, ↓reduceIte, codeB, go_sem]
            rw [alone_bad hlt hlt2 (by omega) (by rw [hwi, hwk]; exact hp)]
      · simp -implicitDefEqProofs only [hlt2, codeB, go_sem]
        refine ⟨by simp only [InR]; omega, i + 1, by omega, ⟨hlt, ?_⟩, by omega⟩
        rw [aloneN_succ, hal, show ws.length = k by omega, hal2]; rfl
    · simp -implicitDefEqProofs only [hlt, codeB, go_sem]
      rw [show i = ws.length by omega] at hal; exact hal.symm
  · simp -implicitDefEqProofs only [h, go_sem]

theorem u23 (q p : Int) (us bs : List (List UInt8)) (hl : us.length ≤ 9223372036854775807) : PFn Tryz.prog 25 [codeV q us, codeV p bs] [.bool (decide (q = p ∧ us = bs))] := by
  by_cases hq : q = p
  rotate_left
  · rw [decide_eq_false (fun e => hq e.1)]
    refine PFn.of_body hΓ Tryz.func25 (by kernel_rfl) rfl (AWp.of_awpD [] hΓ hmix (by kernel_rfl) ?_)
    simp -implicitDefEqProofs only [Tryz.ntmps25, Tryz.results25, Nat.reduceAdd, Nat.reduceSub, codeV, hq, go_sem]
  subst hq
  rw [show decide (q = q ∧ us = bs) = decide (us = bs) by simp]
  refine PFn.of_body hΓ Tryz.func25 (by kernel_rfl) rfl (AWp.of_awpD [] hΓ hmix (by kernel_rfl) ?_)
  by_cases hn : (us.length : Int) = bs.length
  rotate_left
  · rw [decide_eq_false (fun e => hn (by rw [e]))]
    simp -implicitDefEqProofs only [Tryz.ntmps25, Tryz.results25, Nat.reduceAdd, Nat.reduceSub, codeV, hn, go_sem]
  simp -implicitDefEqProofs only [Tryz.ntmps25, Tryz.results25, Nat.reduceAdd, Nat.reduceSub, codeV, hn, go_sem]
  have hn' : us.length = bs.length := by omega
  refine AWp.loopI (fun k : Nat => ⟨mkF 38 [(2, .ptr 0 0), (3, .ptr 1 0), (4, .p (.bool false)), (5, .p (.int .i64 k))], [codeB q us, codeB q bs]⟩)
    (fun k => k ≤ us.length ∧ us.take k = bs.take k) (fun k => us.length - k) 0 (by simp [go_sem, codeB]) (by simp) ?_
  rintro k ⟨hk, heq⟩
  refine AWp.of_awpD [(6, 11)] hΓ hmix (by kernel_rfl) ?_
  by_cases hlt : k < us.length
  · have hlt2 : k < bs.length := by omega
    by_cases he : us[k] = bs[k]
    · simp -implicitDefEqProofs only [hlt, hlt2, he, getD_map_lt, ↓reduceIte, codeB, go_sem]
      refine ⟨by simp only [InR]; omega, k + 1, by omega, ⟨hlt, ?_⟩, by omega⟩
      rw [List.take_succ_eq_append_getElem hlt, List.take_succ_eq_append_getElem hlt2, heq, he]
    · simp -implicitDefEqProofs only [hlt, hlt2, he, getD_map_lt, ↓reduceIte, codeB, go_sem]
      refine (decide_eq_false fun e => he ?_).symm
      subst e; rfl
  · simp -implicitDefEqProofs only [hlt, codeB, go_sem]
    rw [List.take_of_length_le (by omega), List.take_of_length_le (by omega)] at heq
    exact (decide_eq_true heq).symm

theorem u14 (q : Int) (ws : List (List UInt8)) (hl : ws.length ≤ 1000000) : PFn Tryz.prog 88 [.int .i64 q, .sl (ws.map .str)] [if codeCheck q (made ws) = 0 then codeV q (made ws) else codeV 0 [], .int .i64 (codeCheck q (made ws))] := by
  refine PFn.of_body hΓ Tryz.func88 (by kernel_rfl) rfl (AWp.of_awpD [] hΓ hmix (by kernel_rfl) ?_)
  simp +contextual -implicitDefEqProofs only [codeV, Tryz.ntmps88, Tryz.results88, Nat.reduceAdd, Nat.reduceSub, go_sem]
  refine callK_fn (u50 ws hl) (.pures rfl) ?_
  simp -implicitDefEqProofs only [go_sem]
  refine ⟨by omega, ?_⟩
  refine callK_fn (t44 q (made ws)) (.still rfl) ?_
  by_cases hc : codeCheck q (made ws) = 0
  · rw [hc]
    simp -implicitDefEqProofs only [go_sem]
  · simp -implicitDefEqProofs only [hc, go_sem]
end Go.Proofs.YtjjedaikbgfmmaaGreat
end

section
namespace Go.Proofs.YtjjedaikbgfmmaaGreat
open Go Go.AM
set_option maxRecDepth 100000
set_option linter.unusedSimpArgs false

/-- slices.Equal of words. -/
theorem e24 (a b : List (List UInt8)) (hl : a.length ≤ 9223372036854775807) : PFn Tryz.prog 24 [.sl (a.map .str), .sl (b.map .str)] [.bool (decide (a = b))] := by
  refine PFn.of_body hΓ Tryz.func24 (by kernel_rfl) rfl (AWp.of_awpD [] hΓ hmix (by kernel_rfl) ?_)
  simp -implicitDefEqProofs only [Tryz.ntmps24, Tryz.results24, Nat.reduceAdd, Nat.reduceSub, go_sem]
  by_cases he : a.length = b.length
  rotate_left
  · simp -implicitDefEqProofs only [he, go_sem]
    exact (decide_eq_false fun e : a = b => he (by rw [e])).symm
  simp -implicitDefEqProofs only [he, go_sem]
  refine AWp.loopI (fun k : Nat => ⟨mkF 26 [(0, .p (.sl (a.map .str))), (1, .p (.sl (b.map .str))), (4, .p (.bool false)), (12, .p (.int .i64 b.length)), (13, .p (.int .i64 k))], []⟩)
    (fun k => k ≤ a.length ∧ a.take k = b.take k) (fun k => a.length - k) 0 (by simp [go_sem]) (by simp) ?_
  rintro k ⟨hk, heq⟩
  refine AWp.of_awpD [(6, 9)] hΓ hmix (by kernel_rfl) ?_
  by_cases hlt : k < a.length
  · have hltb : k < b.length := by omega
    by_cases hk' : a[k] = b[k]
    · simp -implicitDefEqProofs only [hlt, hltb, getD_map_lt, ↓reduceIte, hk', go_sem]
      refine ⟨by simp only [InR]; omega, k + 1, by simp, ⟨hlt, ?_⟩, by omega⟩
      rw [List.take_succ_eq_append_getElem hlt, List.take_succ_eq_append_getElem (by omega), heq, hk']
    · simp -implicitDefEqProofs only [hlt, hltb, getD_map_lt, ↓reduceIte, hk', go_sem]
      exact (decide_eq_false fun e : a = b => hk' (by subst e; rfl)).symm
  · have hltb : ¬ k < b.length := by omega
    simp -implicitDefEqProofs only [hlt, hltb, go_sem]
    rw [List.take_of_length_le (by omega), List.take_of_length_le (by omega)] at heq
    exact (decide_eq_true heq).symm

def prefB (ws : List (List UInt8)) : Bool := aloneB (fun w x => x.isPrefixOf w) ws
def suffB (ws : List (List UInt8)) : Bool := aloneB (fun w x => x.isSuffixOf w) ws

theorem b40 (q : Int) (ws : List (List UInt8)) : PFn Tryz.prog 40 [codeV q ws] [.bool (if codeCheck q ws = 0 then prefB ws && suffB ws else false), .int .i64 (if codeCheck q ws = 0 then 0 else 1)] := by
  have e1 := t38 q ws
  have e2 := u17 q ws
  refine PFn.of_body hΓ Tryz.func40 (by kernel_rfl) rfl (AWp.of_awpD [] hΓ hmix (by kernel_rfl) ?_)
  unfold codeV at e1 e2 ⊢
  simp -implicitDefEqProofs only [Tryz.ntmps40, Tryz.results40, Nat.reduceAdd, Nat.reduceSub, go_sem]
  by_cases h : codeCheck q ws = 0
  · rw [if_pos h, if_pos h] at e1 e2 ⊢
    refine callK_fn e1 (.still rfl) ?_
    simp -implicitDefEqProofs only [go_sem]
    refine callK_fn e2 (.still rfl) ?_
    unfold prefB suffB
    cases aloneB (fun w x => x.isPrefixOf w) ws
    · simp -implicitDefEqProofs only [go_sem]
      rfl
    · simp -implicitDefEqProofs only [go_sem]
      try rfl
  · rw [if_neg h, if_neg h] at e1 e2 ⊢
    refine callK_fn e1 (.still rfl) ?_
    simp -implicitDefEqProofs only [go_sem]
    refine callK_fn e2 (.still rfl) ?_
    simp -implicitDefEqProofs only [show ¬ (1 : Int) = 0 by decide, go_sem]

theorem b42 (q : Int) (ws : List (List UInt8)) (hl : ws.length ≤ 9223372036854775807) : PFn Tryz.prog 42 [codeV q ws] [.bool (if codeCheck q ws = 0 then decide (made (revs ws) = ws) else false), .int .i64 (if codeCheck q ws = 0 then 0 else 1)] := by
  have e1 := t39 q ws
  refine PFn.of_body hΓ Tryz.func42 (by kernel_rfl) rfl (AWp.of_awpD [] hΓ hmix (by kernel_rfl) ?_)
  unfold codeV at e1 ⊢
  simp -implicitDefEqProofs only [Tryz.ntmps42, Tryz.results42, Nat.reduceAdd, Nat.reduceSub, go_sem]
  by_cases h : codeCheck q ws = 0
  · have hv := valid_of h
    have hRl : (made (revs ws)).length ≤ 9223372036854775807 := by
      have h1 := made_le (revs ws)
      have h2 : (revs ws).length = ws.length := List.length_map _
      omega
    have e24' := e24 (made (revs ws)) ws hRl
    rw [if_pos h, if_pos h] at e1 ⊢
    rw [if_pos (rev_valid hv), rev_valid hv] at e1
    refine callK_fn e1 (.still rfl) ?_
    simp -implicitDefEqProofs only [codeV, go_sem]
    refine callK_fn e24' (.still rfl) ?_
    simp -implicitDefEqProofs only [go_sem]
  · rw [if_neg h, if_neg h] at e1 ⊢
    refine callK_fn e1 (.still rfl) ?_
    simp -implicitDefEqProofs only [show ¬ (1 : Int) = 0 by decide, go_sem]

theorem b43 (q : Int) (ws : List (List UInt8)) (hl : ws.length ≤ 9223372036854775807) (hrev : PFn Tryz.prog 84 [codeV q ws] [if codeCheck q ws = 0 then codeV q (made (revs ws)) else codeV 0 [], .int .i64 (if codeCheck q ws = 0 then 0 else 1)]) :
    PFn Tryz.prog 43 [codeV q ws] [.bool (if codeCheck q ws = 0 then decide (made (revs ws) = ws) else false), .int .i64 (if codeCheck q ws = 0 then 0 else 1)] := by
  refine PFn.of_body hΓ Tryz.func43 (by kernel_rfl) rfl (AWp.of_awpD [] hΓ hmix (by kernel_rfl) ?_)
  unfold codeV at hrev ⊢
  simp -implicitDefEqProofs only [Tryz.ntmps43, Tryz.results43, Nat.reduceAdd, Nat.reduceSub, go_sem]
  by_cases h : codeCheck q ws = 0
  · have e23 := u23 q q ws (made (revs ws)) hl
    unfold codeV at e23
    rw [if_pos h, if_pos h] at hrev ⊢
    refine callK_fn hrev (.still rfl) ?_
    simp -implicitDefEqProofs only [go_sem]
    refine callK_fn e23 (.still rfl) ?_
    have e : decide (q = q ∧ ws = made (revs ws)) = decide (made (revs ws) = ws) := by
      by_cases h1 : ws = made (revs ws)
      · rw [decide_eq_true ⟨rfl, h1⟩, decide_eq_true h1.symm]
      · rw [decide_eq_false (fun h => h1 h.2), decide_eq_false (fun h => h1 h.symm)]
    rw [e]
    simp -implicitDefEqProofs only [go_sem]
  · rw [if_neg h, if_neg h] at hrev ⊢
    refine callK_fn hrev (.still rfl) ?_
    simp -implicitDefEqProofs only [show ¬ (1 : Int) = 0 by decide, go_sem]

theorem alone_iff {pr : List UInt8 → List UInt8 → Bool} {ws : List (List UInt8)} (hd : ws.Nodup) : aloneB pr ws = true ↔ ∀ x ∈ ws, ∀ y ∈ ws, pr x y = true → x = y := by
  have get : ∀ i (h : i < ws.length), ws.getD i [] = ws[i] := fun i h => by rw [List.getD_eq_getElem?_getD, List.getElem?_eq_getElem h, Option.getD_some]
  unfold aloneB aloneN aloneTo
  simp only [List.all_eq_true, List.mem_range, Bool.or_eq_true, decide_eq_true_eq, Bool.not_eq_true']
  constructor
  · intro h x hx y hy hp
    obtain ⟨i, hi, rfl⟩ := List.getElem_of_mem hx
    obtain ⟨k, hk, rfl⟩ := List.getElem_of_mem hy
    rcases h i hi k hk with e | e
    · subst e; rfl
    · rw [get i hi, get k hk, hp] at e; cases e
  · intro h i hi k hk
    by_cases e : i = k
    · exact .inl e
    · right
      rw [get i hi, get k hk]
      cases hp : pr ws[i] ws[k] with
      | false => rfl
      | true =>
        have := h _ (List.getElem_mem hi) _ (List.getElem_mem hk) hp
        have hp := List.pairwise_iff_getElem.1 (show ws.Pairwise (· ≠ ·) from hd)
        rcases Nat.lt_trichotomy i k with hik | hik | hik
        · exact absurd this (hp i k hi hk hik)
        · exact absurd hik e
        · exact absurd this.symm (hp k i hk hi hik)
theorem strict_nodup {ws : List (List UInt8)} (h : ws.Pairwise ltW) : ws.Nodup := List.Pairwise.imp (fun {a b} (hab : ltW a b) (e : a = b) => ltW_irrefl b (by rw [e] at hab; exact hab)) h
theorem mem_revs {ws : List (List UInt8)} {x : List UInt8} : x ∈ made (revs ws) ↔ x.reverse ∈ ws := by
  rw [mem_made]
  unfold revs
  rw [List.mem_map]
  constructor
  · rintro ⟨a, ha, rfl⟩; simpa using ha
  · intro h; exact ⟨_, h, by simp⟩
/-- A suffix code exactly if the reversed one is a prefix code. -/
theorem alone_rev {ws : List (List UInt8)} (hs : ws.Pairwise ltW) : prefB (made (revs ws)) = suffB ws := by
  have h1 := alone_iff (pr := fun w x => x.isPrefixOf w) (strict_nodup (made_strict (revs ws)))
  have h2 := alone_iff (pr := fun w x => x.isSuffixOf w) (strict_nodup hs)
  unfold prefB suffB
  rw [Bool.eq_iff_iff, h1, h2]
  constructor
  · intro h x hx y hy hp
    have := h x.reverse (mem_revs.2 (by simpa using hx)) y.reverse (mem_revs.2 (by simpa using hy)) (List.isPrefixOf_iff_prefix.2 (List.reverse_prefix.2 (List.isSuffixOf_iff_suffix.1 hp)))
    simpa using congrArg List.reverse this
  · intro h x hx y hy hp
    have := h x.reverse (mem_revs.1 hx) y.reverse (mem_revs.1 hy) (List.isSuffixOf_iff_suffix.2 (List.reverse_suffix.2 (List.isPrefixOf_iff_prefix.1 hp)))
    simpa using congrArg List.reverse this
theorem Valid.strict {q : Int} {ws : List (List UInt8)} (hv : Valid q ws) : ws.Pairwise ltW := List.pairwise_iff_getElem.2 fun i j hi hj hij => by
  have := hv.lt i j hij hj
  rwa [List.getD_eq_getElem?_getD, List.getD_eq_getElem?_getD, List.getElem?_eq_getElem hi, List.getElem?_eq_getElem hj, Option.getD_some, Option.getD_some] at this
theorem made_revs_revs {ws : List (List UInt8)} (hs : ws.Pairwise ltW) : made (revs (made (revs ws))) = ws :=
  strict_unique (made_strict _) hs fun x => by rw [mem_revs, mem_revs, List.reverse_reverse]

theorem b10 (q : Int) (ws : List (List UInt8)) (hws : ws.length ≤ 9223372036854775807) : PFn Tryz.prog 10 [codeV q ws] [.bool true] := by
  have eg := t11 q ws hws
  have ec := t44 q ws
  refine PFn.of_body hΓ Tryz.func10 (by kernel_rfl) rfl (AWp.seq (AWp.of_awpD [] hΓ hmix (by kernel_rfl) ?_))
  simp -implicitDefEqProofs only [Tryz.ntmps10, Tryz.results10, Nat.reduceAdd, Nat.reduceSub, codeV, go_sem]
  have awake : ∀ {Q : AV → Prop}, Q (.p (.bool true)) → True := fun _ => trivial
  unfold codeV at eg ec
  cases hg : (greatC ws || ws.any greatW)
  rotate_left
  · rw [hg] at eg
    refine AWp.seq ?_
    refine AWp.of_awpD [] hΓ hmix (by kernel_rfl) ?_
    simp -implicitDefEqProofs only [go_sem]
    refine callK_fn eg (.still rfl) ?_
    simp -implicitDefEqProofs only [go_sem]
    refine callK_fn awake_ok (.pures rfl) ?_
    simp -implicitDefEqProofs only [go_sem]
  rw [hg] at eg
  by_cases h : codeCheck q ws = 0
  rotate_left
  · refine AWp.seq ?_
    refine AWp.of_awpD [] hΓ hmix (by kernel_rfl) ?_
    simp -implicitDefEqProofs only [go_sem]
    refine callK_fn eg (.still rfl) ?_
    simp -implicitDefEqProofs only [go_sem]
    refine callK_fn ec (.still rfl) ?_
    simp -implicitDefEqProofs only [h, go_sem]
    refine callK_fn awake_ok (.pures rfl) ?_
    simp -implicitDefEqProofs only [go_sem]
  have hv := valid_of h
  have hvr := valid_of (rev_valid hv)
  have hr := rev_valid hv
  rw [h] at ec
  have e40 := b40 q ws
  have e42 := b42 q ws hws
  have e45 := t39 q ws
  have e15 := t38 q ws
  have hRl : (made (revs ws)).length ≤ 9223372036854775807 := by
    have h1 := made_le (revs ws)
    have h2 : (revs ws).length = ws.length := List.length_map _
    omega
  have e15' := t38 q (made (revs ws))
  have e42' := b42 q (made (revs ws)) hRl
  have e23 := u23 q q ws (made (revs ws)) hws
  rw [if_pos h, if_pos h] at e40 e42 e15
  rw [if_pos h, if_pos h, if_pos hr, hr] at e45
  rw [if_pos hr, if_pos hr] at e42' e15'
  rw [made_revs_revs hv.strict] at e42'
  have hp : aloneB (fun w x => x.isPrefixOf w) (made (revs ws)) = suffB ws := alone_rev hv.strict
  rw [hp] at e15'
  rw [show aloneB (fun w x => x.isPrefixOf w) ws = prefB ws from rfl] at e15
  have hsw : decide (ws = made (revs ws)) = decide (made (revs ws) = ws) := by
    by_cases h1 : ws = made (revs ws)
    · rw [decide_eq_true h1, decide_eq_true h1.symm]
    · rw [decide_eq_false h1, decide_eq_false (fun h => h1 h.symm)]
  have hsw2 : decide (q = q ∧ ws = made (revs ws)) = decide (made (revs ws) = ws) := by rw [← hsw]; simp
  rw [hsw] at e42'
  rw [hsw2] at e23
  have hkey : decide (made (revs ws) = ws) = true → prefB ws = suffB ws := fun hd => by
    have hd := of_decide_eq_true hd
    rw [← alone_rev hv.strict, hd]
  generalize made (revs ws) = R at *
  generalize decide (R = ws) = S at *
  generalize prefB ws = A at *
  generalize suffB ws = B at *
  unfold codeV at e40 e42 e45 e15 e15' e42' e23
  refine AWp.seq ?_
  refine AWp.of_awpD [] hΓ hmix (by kernel_rfl) ?_
  simp -implicitDefEqProofs only [go_sem]
  refine callK_fn eg (.still rfl) ?_
  simp -implicitDefEqProofs only [go_sem]
  refine callK_fn ec (.still rfl) ?_
  simp -implicitDefEqProofs only [go_sem]
  refine AWp.of_awpD [] hΓ hmix (by kernel_rfl) ?_
  simp -implicitDefEqProofs only [go_sem]
  refine callK_fn e40 (.still rfl) ?_
  simp -implicitDefEqProofs only [go_sem]
  refine callK_fn e42 (.still rfl) ?_
  simp -implicitDefEqProofs only [go_sem]
  refine callK_fn e45 (.still rfl) ?_
  simp -implicitDefEqProofs only [go_sem]
  refine callK_fn e15 (.still rfl) ?_
  simp -implicitDefEqProofs only [go_sem]
  refine callK_fn e15' (.still rfl) ?_
  simp -implicitDefEqProofs only [go_sem]
  refine callK_fn e42' (.still rfl) ?_
  have fin : ((A && B) == (A && B)) = true := by simp
  rcases (by cases A <;> cases B <;> cases S <;> simp at hkey ⊢ : (S = false) ∨ (S = true ∧ A = B)) with rfl | ⟨rfl, rfl⟩
  · cases A <;> cases B
    all_goals
      simp -implicitDefEqProofs only [ite_self, beq_self_eq_true, show (false == true) = false by decide, show (true == false) = false by decide, show (false != false) = false by decide, show (true != true) = false by decide, go_sem]
      refine callK_fn e23 (.still rfl) ?_
      simp -implicitDefEqProofs only [ite_self, beq_self_eq_true, show (false == true) = false by decide, show (true == false) = false by decide, show (false != false) = false by decide, show (true != true) = false by decide, go_sem]
      refine callK_fn awake_ok (.pures rfl) ?_
      simp -implicitDefEqProofs only [go_sem]
  · cases A
    all_goals
      simp -implicitDefEqProofs only [ite_self, beq_self_eq_true, show (false == true) = false by decide, show (true == false) = false by decide, show (false != false) = false by decide, show (true != true) = false by decide, go_sem]
      refine callK_fn e23 (.still rfl) ?_
      simp -implicitDefEqProofs only [ite_self, beq_self_eq_true, show (false == true) = false by decide, show (true == false) = false by decide, show (false != false) = false by decide, show (true != true) = false by decide, go_sem]
      refine callK_fn awake_ok (.pures rfl) ?_
      simp -implicitDefEqProofs only [go_sem]
end Go.Proofs.YtjjedaikbgfmmaaGreat
end

section
namespace Go.Proofs.YtjjedaikbgfmmaaGreat
open Go Go.AM
set_option maxRecDepth 100000
set_option maxHeartbeats 4000000
set_option linter.unusedSimpArgs false

theorem p126 (w x : List UInt8) : PFn Tryz.prog 126 [.str w, .str x] [.bool (x.isPrefixOf w)] := by
  refine PFn.of_body hΓ Tryz.func126 (by kernel_rfl) rfl (AWp.of_awpD [] hΓ hmix (by kernel_rfl) ?_)
  simp +contextual -implicitDefEqProofs only [Tryz.ntmps126, Tryz.results126, Nat.reduceAdd, Nat.reduceSub, go_sem]
  refine ⟨fun h => ?_, fun h => ?_⟩
  · rw [Bool.eq_iff_iff, List.isPrefixOf_iff_prefix, List.prefix_iff_eq_take, decide_eq_true_eq]; exact eq_comm
  · rw [Bool.eq_iff_iff, List.isPrefixOf_iff_prefix]
    exact ⟨fun h => by simp at h, fun h' => absurd h'.length_le (by omega)⟩

/-- Whether a word of a list begins with u. -/
theorem p87 (l : List (List UInt8)) (u : List UInt8) (hl : l.length ≤ 9223372036854775807) : PFn Tryz.prog 87 [.sl (l.map .str), .str u] [.bool (l.any fun x => u.isPrefixOf x)] := by
  refine PFn.of_body hΓ Tryz.func87 (by kernel_rfl) rfl (AWp.of_awpD [] hΓ hmix (by kernel_rfl) ?_)
  simp -implicitDefEqProofs only [Tryz.ntmps87, Tryz.results87, Nat.reduceAdd, Nat.reduceSub, go_sem]
  refine AWp.loopI (fun k : Nat => ⟨mkF 18 [(0, .p (.sl (l.map .str))), (1, .p (.str u)), (4, .p (.bool false)), (5, .p (.int .i64 k))], []⟩)
    (fun k => k ≤ l.length ∧ ((l.take k).any fun x => u.isPrefixOf x) = false) (fun k => l.length - k) 0 (by simp [go_sem]) (by simp) ?_
  rintro k ⟨hk, h0⟩
  refine AWp.of_awpD [] hΓ hmix (by kernel_rfl) ?_
  by_cases hlt : k < l.length
  · simp -implicitDefEqProofs only [hlt, getD_map_lt, ↓reduceIte, go_sem]
    refine callK_fn (p126 l[k] u) (.pures rfl) ?_
    cases hp : u.isPrefixOf l[k]
    · simp -implicitDefEqProofs only [go_sem]
      refine ⟨by simp only [InR]; omega, k + 1, by simp, ⟨hlt, ?_⟩, by omega⟩
      rw [List.take_succ_eq_append_getElem hlt, List.any_append, h0]; simp [hp]
    · simp -implicitDefEqProofs only [go_sem]
      rw [List.any_eq_true.2 ⟨_, List.getElem_mem hlt, hp⟩]
  · simp -implicitDefEqProofs only [hlt, go_sem]
    rw [List.take_of_length_le (by omega)] at h0; rw [h0]

theorem p63 (q : Int) (ws : List (List UInt8)) : PFn Tryz.prog 63 [codeV q ws] [.int .i64 (chE q ws)] := by
  have e1 := u16 q ws
  refine PFn.of_body hΓ Tryz.func63 (by kernel_rfl) rfl (AWp.of_awpD [] hΓ hmix (by kernel_rfl) ?_)
  unfold chE preP
  unfold codeV at e1 ⊢
  simp -implicitDefEqProofs only [Tryz.ntmps63, Tryz.results63, Nat.reduceAdd, Nat.reduceSub, go_sem]
  by_cases h : codeCheck q ws = 0
  · rw [if_pos h, if_pos h] at e1
    rw [if_pos h]
    refine callK_fn e1 (.still rfl) ?_
    cases hb : aloneB (fun w x => x.isPrefixOf w) ws
    · simp -implicitDefEqProofs only [go_sem]
    · simp -implicitDefEqProofs only [go_sem]
  · rw [if_neg h, if_neg h] at e1
    rw [if_neg h]
    refine callK_fn e1 (.still rfl) ?_
    simp -implicitDefEqProofs only [show ¬ (1 : Int) = 0 by decide, go_sem]

def goneL (l : List Int) (n k : Nat) : List PV := (List.range n).map fun i : Nat => .bool (decide ((i : Int) ∈ l.take k))
theorem goneL_len (l : List Int) (n k : Nat) : (goneL l n k).length = n := by simp [goneL]
theorem goneL_zero (l : List Int) (n : Nat) : goneL l n 0 = List.replicate n (.bool false) := by
  unfold goneL
  rw [List.take_zero]
  simp only [List.not_mem_nil, decide_false]
  rw [List.map_const', List.length_range]
theorem goneL_at {l : List Int} {n k i : Nat} (hi : i < n) : (goneL l n k).getD i default = .bool (decide ((i : Int) ∈ l.take k)) := by
  unfold goneL
  rw [List.getD_eq_getElem?_getD, List.getElem?_map, List.getElem?_range hi]; rfl
theorem goneL_get {l : List Int} {n k i : Nat} (h : i < (goneL l n k).length) : (goneL l n k)[i] = .bool (decide ((i : Int) ∈ l.take k)) := by simp [goneL]
theorem goneL_set {l : List Int} {n k : Nat} (hk : k < l.length) (h0 : 0 ≤ l[k]) (_ : l[k] < n) : (goneL l n k).set l[k].toNat (.bool true) = goneL l n (k + 1) := by
  refine List.ext_getElem (by simp [goneL]) fun i h2 h3 => ?_
  rw [List.getElem_set, goneL_get h3, List.take_succ_eq_append_getElem hk]
  split
  · rename_i e
    have : (i : Int) = l[k] := by omega
    rw [decide_eq_true (List.mem_append.2 (.inr (List.mem_singleton.2 this)))]
  · rename_i e
    have : ¬ (i : Int) = l[k] := by omega
    rw [goneL_get]
    congr 1
    rw [Bool.eq_iff_iff, decide_eq_true_eq, decide_eq_true_eq, List.mem_append, List.mem_singleton]
    exact ⟨.inl, fun h => h.resolve_right this⟩

theorem leftN_pair {ws : List (List UInt8)} {l : List Int} : ∀ n, n ≤ ws.length → (leftN ws l n).Sublist (ws.take n)
  | 0, _ => by simp [leftN]
  | n + 1, hn => by
    have ih := leftN_pair (ws := ws) (l := l) n (by omega)
    rw [List.take_succ_eq_append_getElem hn]
    by_cases hm : (n : Int) ∈ l
    · rw [leftN_yes hm]; exact ih.trans (List.sublist_append_left _ _)
    · rw [leftN_no hm hn]; exact List.Sublist.append ih (List.Sublist.refl _)
/-- In a prefix code each word is cut within itself. -/
theorem cut_in {q : Int} {ws : List (List UInt8)} {l : List Int} (hv : Valid q ws) (hp : prefB ws = true) {i : Nat} (hi : i < (leftN ws l ws.length).length) :
    cutN (othersN (leftN ws l ws.length) i) (leftN ws l ws.length)[i] ≤ (leftN ws l ws.length)[i].length := by
  have hsub : (leftN ws l ws.length).Sublist ws := by have := leftN_pair (ws := ws) (l := l) ws.length (Nat.le_refl _); rwa [List.take_length] at this
  have hmem : ∀ x ∈ leftN ws l ws.length, x ∈ ws := fun x hx => hsub.mem hx
  have hnd : (leftN ws l ws.length).Nodup := (strict_nodup hv.strict).sublist hsub
  have hal := (alone_iff (pr := fun w x => x.isPrefixOf w) (strict_nodup hv.strict)).1 hp
  generalize leftN ws l ws.length = L at *
  by_cases hc : cutN (othersN L i) L[i] ≤ L[i].length
  · exact hc
  exfalso
  rcases cutN_lt (os := othersN L i) (w := L[i]) (n := L[i].length) (by omega) (Nat.le_refl _) with h | h
  · exact (hv.words _ (hmem _ (List.getElem_mem hi))).1 (List.eq_nil_of_length_eq_zero h)
  · rw [List.take_length, List.any_eq_true] at h
    obtain ⟨x, hx, hpx⟩ := h
    have hxL : x ∈ L := by
      unfold othersN at hx
      rcases List.mem_append.1 hx with h1 | h1
      · exact List.mem_of_mem_take h1
      · exact List.mem_of_mem_drop h1
    have e := hal x (hmem x hxL) L[i] (hmem _ (List.getElem_mem hi)) hpx
    subst e
    unfold othersN at hx
    have hsplit : L = L.take i ++ L[i] :: L.drop (i + 1) := by rw [← List.drop_eq_getElem_cons hi, List.take_append_drop]
    rw [hsplit] at hnd
    have h2 := List.nodup_append.1 hnd
    have h3 := List.nodup_cons.1 h2.2.1
    rcases List.mem_append.1 hx with h1 | h1
    · exact h2.2.2 _ h1 _ List.mem_cons_self rfl
    · exact h3.1 h1
theorem cutL_in {os : List (List UInt8)} {w : List UInt8} (h : cutN os w ≤ w.length) : cutL os w = [w.take (cutN os w)] := by unfold cutL; rw [if_pos h]
theorem cutN_pos {os : List (List UInt8)} {w : List UInt8} (h : cutN os w ≤ w.length) : 0 < cutN os w := (cutN_at h).1

theorem codeCheck_nil {q : Int} {ws : List (List UInt8)} (hv : Valid q ws) : codeCheck q [] = 5 := by
  unfold codeCheck
  have h2 := hv.q2
  have h16 := hv.q16
  rw [if_neg (by omega), if_pos (by simp)]

theorem b44 (q : Int) (ws : List (List UInt8)) (l : List Int) (hl : l.length ≤ 9223372036854775807) :
    PFn Tryz.prog 44 [codeV q ws, .sl (l.map Kn.iV)] [pruneW q ws l, .int .i64 (pruneE q ws l)] := by
  have e63 := p63 q ws
  refine PFn.of_body hΓ Tryz.func44 (by kernel_rfl) rfl (AWp.seq (AWp.of_awpD [] hΓ hmix (by kernel_rfl) ?_))
  simp -implicitDefEqProofs only [Tryz.ntmps44, Tryz.results44, Nat.reduceAdd, Nat.reduceSub, codeV, go_sem]
  unfold codeV at e63
  refine AWp.seq ?_
  refine AWp.of_awpD [] hΓ hmix (by kernel_rfl) ?_
  simp -implicitDefEqProofs only [go_sem]
  refine callK_fn e63 (.still rfl) ?_
  by_cases hc : chE q ws = 0
  rotate_left
  · have hE : pruneE q ws l = chE q ws := by unfold pruneE; rw [if_pos hc]
    unfold pruneW
    rw [hE, if_neg hc]
    simp -implicitDefEqProofs only [hc, codeV, List.map_nil, go_sem]
  rw [hc]
  simp -implicitDefEqProofs only [go_sem]
  refine AWp.seq (AWp.of_awpD [] hΓ hmix (by kernel_rfl) ?_)
  simp -implicitDefEqProofs only [go_sem]
  have hv' : codeCheck q ws = 0 := by
    unfold chE at hc
    by_cases h : codeCheck q ws = 0
    · exact h
    · rw [if_neg h] at hc; omega
  have hp : prefB ws = true := by
    unfold chE at hc
    rw [if_pos hv'] at hc
    by_cases h : preP ws = true
    · exact h
    · rw [if_neg h] at hc; omega
  have hv := valid_of hv'
  have hlen := hv.len
  refine ⟨⟨by omega, by omega⟩, ?_⟩
  refine AWp.seq (AWp.of_awpD [] hΓ hmix (by kernel_rfl) ?_)
  simp -implicitDefEqProofs only [go_sem]
  refine AWp.loopI (fun k : Nat => ⟨mkF 114 [(1, .p (.sl (l.map Kn.iV))), (2, .ptr 0 0), (4, .ptr 1 0), (5, .p (.int .i64 0)), (7, .own 2 ws.length), (8, .p (.int .i64 k))], [.box [.p (.int .i64 q), .p (.sl (ws.map .str))], .box [.p (.int .i64 0), .full []], .row 4 1 (goneL l ws.length k) .own]⟩)
    (fun k => k ≤ l.length ∧ (l.take k).any (outR ws) = false) (fun k => l.length - k) 0 (by simp [go_sem, goneL_zero]) (by simp) ?_
  rintro k ⟨hk, h0⟩
  refine AWp.of_awpD [(8, 15)] hΓ hmix (by kernel_rfl) ?_
  by_cases hlt : k < l.length
  · have hlt' : (k : Int) < (l.length : Int) := by omega
    have hg : (l.map Kn.iV).getD k default = .int .i64 l[k] := by rw [getD_map_lt _ _ _ _ hlt]; rfl
    by_cases hx : outR ws l[k] = true
    · have hE : pruneE q ws l = 2 := by unfold pruneE; rw [if_neg (fun h => h hc), if_pos (List.any_eq_true.2 ⟨_, List.getElem_mem hlt, hx⟩)]
      unfold pruneW
      rw [hE, if_neg (by decide)]
      unfold outR at hx
      simp only [Bool.or_eq_true, decide_eq_true_eq] at hx
      by_cases hx0 : l[k] < 0
      · simp -implicitDefEqProofs only [hlt', hg, hx0, Int.toNat_natCast, codeV, List.map_nil, go_sem]
      · have hx1 := hx.resolve_left hx0
        simp -implicitDefEqProofs only [hlt', hg, hx0, hx1, Int.toNat_natCast, codeV, List.map_nil, go_sem]
    · have hx' := hx
      unfold outR at hx'
      simp only [Bool.or_eq_true, decide_eq_true_eq, not_or, Int.not_lt, Int.not_le] at hx'
      have hx0 : ¬ l[k] < 0 := by omega
      have hx1 : ¬ (ws.length : Int) ≤ l[k] := by omega
      simp -implicitDefEqProofs only [hlt', hg, hx0, hx1, Int.toNat_natCast, go_sem]
      refine ⟨⟨by omega, by omega⟩, ⟨by rw [goneL_len]; omega, rfl⟩, by simp only [InR]; omega, k + 1, ⟨by omega, .inl (goneL_set hlt (by omega) (by omega)).symm⟩, ⟨hlt, ?_⟩, by omega⟩
      rw [List.take_succ_eq_append_getElem hlt, List.any_append, h0]
      simp [eq_false_of_ne_true hx]
  have hlt' : ¬ (k : Int) < (l.length : Int) := by omega
  have hk' : k = l.length := by omega
  subst hk'
  rw [List.take_length] at h0
  simp -implicitDefEqProofs only [Int.lt_irrefl, Nat.lt_irrefl, go_sem]
  refine AWp.seq (AWp.of_awpD [] hΓ hmix (by kernel_rfl) ?_)
  simp -implicitDefEqProofs only [go_sem]
  refine AWp.adopt (l := []) 9 9 1 (by rfl) (by simp) ?_
  simp -implicitDefEqProofs only [go_sem]
  refine AWp.seq (AWp.of_awpD [] hΓ hmix (by kernel_rfl) ?_)
  simp -implicitDefEqProofs only [go_sem]
  refine AWp.loopI (fun i : Nat => ⟨mkF 114 [(2, .ptr 0 0), (4, .ptr 1 0), (5, .p (.int .i64 0)), (7, .own 2 ws.length), (9, .own 3 (leftN ws l i).length), (10, .p (.int .i64 i))], [.box [.p (.int .i64 q), .p (.sl (ws.map .str))], .box [.p (.int .i64 0), .full []], .row 4 1 (goneL l ws.length l.length) .own, .row 9 1 ((leftN ws l i).map .str) .lax]⟩)
    (fun i => i ≤ ws.length) (fun i => ws.length - i) 0 (by simp [go_sem, leftN]) (by omega) ?_
  intro i hi
  refine AWp.of_awpD [] hΓ hmix (by kernel_rfl) ?_
  by_cases hlt : i < ws.length
  · have hlt' : (i : Int) < (ws.length : Int) := by omega
    have hg : (ws.map PV.str).getD i default = .str ws[i] := getD_map_lt _ _ _ _ hlt
    have hb := goneL_at (l := l) (n := ws.length) (k := l.length) hlt
    have hgl := goneL_len l ws.length l.length
    rw [List.take_length] at hb
    by_cases hm : (i : Int) ∈ l
    · rw [decide_eq_true hm] at hb
      simp -implicitDefEqProofs only [hlt', hg, hb, hgl, Int.toNat_natCast, go_sem]
      exact ⟨hlt, by simp only [InR]; omega, i + 1, by rw [leftN_yes hm]; simp, hlt, by omega⟩
    · rw [decide_eq_false hm] at hb
      have hL := leftN_len ws l i
      have hs1 : sizeOK [PV.str ws[i]] 1 := by simp [sizeOK, PV.cells]
      have ho1 : oneOK [PV.str ws[i]] := by simp [oneOK, PV.cells, PV.isAgg]
      simp -implicitDefEqProofs only [hlt', hg, hb, hgl, Int.toNat_natCast, go_sem]
      refine ⟨hlt, ⟨hs1, by omega⟩, ⟨hs1, ho1⟩, ⟨by simp, by omega, by omega⟩, by simp only [InR]; omega, i + 1, ⟨⟨by rw [leftN_no hm hlt]; simp, by simp⟩, .inr ?_⟩, hlt, by omega⟩
      rw [leftN_no hm hlt]
      simp
  have hlt' : ¬ (i : Int) < (ws.length : Int) := by omega
  have hiw : i = ws.length := by omega
  subst hiw
  simp -implicitDefEqProofs only [Int.lt_irrefl, Nat.lt_irrefl, go_sem]
  have hL := leftN_len ws l ws.length
  have hLm := leftN_mem (ws := ws) (l := l) (Nat.le_refl _)
  have hcut := fun i hi => cut_in (l := l) (i := i) hv hp hi
  generalize hLe : leftN ws l ws.length = L at *
  refine AWp.freeze 3 rfl ?_
  refine AWp.seq (AWp.of_awpD [] hΓ hmix (by kernel_rfl) ?_)
  simp -implicitDefEqProofs only [Frozen, List.length_map, go_sem]
  refine AWp.adopt (l := []) 11 9 1 (by rfl) (by simp) ?_
  simp -implicitDefEqProofs only [go_sem]
  refine AWp.seq (AWp.of_awpD [] hΓ hmix (by kernel_rfl) ?_)
  simp -implicitDefEqProofs only [go_sem]
  refine AWp.loopJ (fun i : Nat => ⟨mkF 114 [(2, .ptr 0 0), (4, .ptr 1 0), (5, .p (.int .i64 0)), (9, .p (.sl (L.map .str))), (11, .own 4 (pruneN L i).length), (12, .p (.int .i64 i))], [.box [.p (.int .i64 q), .p (.sl (ws.map .str))], .box [.p (.int .i64 0), .full []], .row 4 1 (goneL l ws.length l.length) .own, .dead, .row 9 1 ((pruneN L i).map .str) .lax]⟩)
    (fun i => i ≤ L.length) (fun i => L.length - i) 0 (fun x => by simp [BelowAll, mkF, AV.blw, AV.blw.blwL, blwH, AObj.blw]) (by simp [go_sem, pruneN]) (by omega) ?_
  intro i hi
  refine AWp.seq (AWp.of_awpD [] hΓ hmix (by kernel_rfl) ?_)
  by_cases hlt : i < L.length
  · have hlt' : (i : Int) < (L.length : Int) := by omega
    have hg : (L.map PV.str).getD i default = .str L[i] := getD_map_lt _ _ _ _ hlt
    have hnat : ((i : Int) + 1).toNat = i + 1 := by omega
    simp -implicitDefEqProofs only [hlt', List.length_map, go_sem]
    refine AWp.seq (AWp.block ?_)
    refine AWp.seq ?_
    refine AWp.planL (.q 0 (.q 1 (.q 2 (.q 3 (.q 5 (.q 6 (.q 7 (.q 8 (.e 4 (.s 5 (.s 6 (.s 7 (.s 8 (.e 9 (.q 10 .fin) .nil))))) .nil))))))))) hΓ hmix (by kernel_rfl) ?_
    simp -implicitDefEqProofs only [List.length_map, hnat, Int.toNat_natCast, ← List.map_take, ← List.map_drop, go_sem]
    have hT : (L.take i).length ≤ 64 := by rw [List.length_take]; omega
    have hD : (L.drop (i + 1)).length ≤ 64 := by rw [List.length_drop]; omega
    refine ⟨⟨size_str [], by omega⟩, size_str _, by omega, by simp only [InR]; omega, size_str _, ⟨by omega, by omega⟩, ⟨size_str _, one_str _⟩, ⟨size_str [], by omega, by omega⟩, by simp only [InR]; omega, ⟨size_str _, by omega, by omega⟩, ⟨size_str _, one_str _⟩, ⟨?_, by simp, by omega, by omega⟩, ?_⟩
    · split <;> simp
    · refine AWp.seq (AWp.of_awpD [] hΓ hmix (by kernel_rfl) ?_)
      simp -implicitDefEqProofs only [go_sem]
      have hwl : L[i].length ≤ 100000 := by have := (hv.words _ (hLm _ (List.getElem_mem hlt))).2.1; omega
      have hosl : (othersN L i).length ≤ 9223372036854775807 := by simp [othersN]; omega
      have hos1 : (othersN L i).map PV.str = (L.take i).map PV.str ++ (L.drop (i + 1)).map PV.str := by unfold othersN; rw [List.map_append]
      have hos2 : (othersN L i).length = (L.take i).length + (L.drop (i + 1)).length := by unfold othersN; rw [List.length_append]
      have hcle := hcut i hlt
      have hcat := @cutN_at (othersN L i) L[i] hcle
      have hclt := @cutN_lt (othersN L i) L[i]
      have hps := pruneN_succ hlt
      rw [cutL_in hcle] at hps
      have hpl := pruneN_len L i
      rw [← hos1, ← hos2]
      have hrk : ∃ rk, (if ((L.drop (i + 1)).map PV.str).isEmpty = true then (if ((L.take i).map PV.str).isEmpty = true then RK.lax else RK.own) else RK.own) = rk ∧ (rk = .lax ∨ rk = .own) := ⟨_, rfl, by split <;> (try split) <;> simp⟩
      obtain ⟨rk, hrk, hrk2⟩ := hrk
      rw [hrk]
      generalize hwe : L[i] = w at *
      generalize othersN L i = os at *
      generalize hNe : cutN os w = N at *
      refine AWp.seq (AWp.block ?_)
      refine AWp.loopI (fun n : Nat => ⟨mkF 114 [(2, .ptr 0 0), (4, .ptr 1 0), (5, .p (.int .i64 0)), (9, .p (.sl (L.map .str))), (11, .own 4 (pruneN L i).length), (12, .p (.int .i64 i)), (13, .own 5 os.length), (14, .p (.int .i64 n))], [.box [.p (.int .i64 q), .p (.sl (ws.map .str))], .box [.p (.int .i64 0), .full []], .row 4 1 (goneL l ws.length l.length) .own, .dead, .row 9 1 ((pruneN L i).map .str) .lax, .row 9 1 (os.map .str) .lax]⟩)
        (fun n => 1 ≤ n ∧ n ≤ N) (fun n => N - n) 1 (by rcases hrk2 with rfl | rfl <;> simp [go_sem, weakH_self]) ⟨Nat.le_refl _, hcat.1⟩ ?_
      rintro n ⟨hn1, hn2⟩
      refine AWp.of_awpD [] hΓ hmix (by kernel_rfl) ?_
      have hnw : (n : Int) ≤ (w.length : Int) := by omega
      simp -implicitDefEqProofs only [hlt, hg, Int.toNat_natCast, go_sem]
      refine ⟨by omega, callK_fn (p87 os (w.take n) hosl) (.owned rfl rfl) ?_⟩
      by_cases hn : n = N
      · subst hn
        rw [hcat.2]
        simp -implicitDefEqProofs only [go_sem]
        refine AWp.of_awpD [] hΓ hmix (by kernel_rfl) ?_
        simp -implicitDefEqProofs only [hlt, hg, Int.toNat_natCast, go_sem]
        refine ⟨by omega, ⟨size_str [_], by omega⟩, ⟨size_str [_], one_str [_]⟩, ⟨by simp, by omega, by omega⟩, ?_⟩
        refine AWp.of_awpD [] hΓ hmix (by kernel_rfl) ?_
        simp -implicitDefEqProofs only [List.set_cons_zero, List.set_cons_succ, go_sem]
        refine ⟨by simp only [InR]; omega, i + 1, ⟨by simp [hps], ?_⟩, hlt, by omega⟩
        rw [hps]
        simp
      · have hnlt : n < N := by omega
        rw [(hclt hnlt (by omega)).resolve_left (by omega)]
        simp -implicitDefEqProofs only [go_sem]
        exact ⟨by simp only [InR]; omega, n + 1, by simp, ⟨by omega, by omega⟩, by omega⟩
  have hlt' : ¬ (i : Int) < (L.length : Int) := by omega
  have hiL : i = L.length := by omega
  subst hiL
  simp -implicitDefEqProofs only [Int.lt_irrefl, Nat.lt_irrefl, List.length_map, go_sem]
  refine AWp.freeze 4 rfl ?_
  have e65 := u14 q (pruneN L L.length) (by have := pruneN_len L L.length; omega)
  refine AWp.of_awpD [] hΓ hmix (by kernel_rfl) ?_
  simp -implicitDefEqProofs only [Frozen, AV.thaw, AObj.thaw, AV.thaw.thawL, List.map_cons, List.map_nil, List.set_cons_zero, List.set_cons_succ, go_sem]
  have hE : pruneE q ws l = codeCheck q (made (pruneN L L.length)) := by
    by_cases h00 : L.length = 0
    · have : pruneN L L.length = [] := by rw [h00]; rfl
      unfold pruneE; rw [if_neg (fun h => h hc), if_neg (by rw [h0]; decide), hLe, if_pos h00, this]
      rw [made_nil]
      exact (codeCheck_nil hv).symm
    · unfold pruneE; rw [if_neg (fun h => h hc), if_neg (by rw [h0]; decide), hLe, if_neg h00]
  unfold pruneW
  rw [hE, hLe]
  by_cases hm : codeCheck q (made (pruneN L L.length)) = 0
  · rw [if_pos hm] at e65 ⊢
    unfold codeV at e65 ⊢
    refine callK_fn e65 (.pures rfl) ?_
    simp -implicitDefEqProofs only [codeV, go_sem]
  · rw [if_neg hm] at e65 ⊢
    unfold codeV at e65 ⊢
    refine callK_fn e65 (.pures rfl) ?_
    simp -implicitDefEqProofs only [codeV, List.map_nil, go_sem]
end Go.Proofs.YtjjedaikbgfmmaaGreat
end

section
namespace Go.Proofs.YtjjedaikbgfmmaaGreat
open Go Go.AM
set_option maxRecDepth 100000
set_option linter.unusedSimpArgs false

theorem u59 (w : List UInt8) (hw : w.length ≤ 1000000) : PFn Tryz.prog 123 [.str w] [.str w.reverse] := by
  refine PFn.of_body hΓ Tryz.func123 (by kernel_rfl) rfl (AWp.of_awpD [] hΓ hmix (by kernel_rfl) ?_)
  simp +contextual -implicitDefEqProofs only [Tryz.ntmps123, Tryz.results123, Nat.reduceAdd, Nat.reduceSub, go_sem]
  refine AWp.loopI (fun k : Nat => ⟨mkF 19 [(0, .p (.str w)), (3, .p (.str (w.take k).reverse)), (4, .p (.int .i64 k))], []⟩)
    (fun k => k ≤ w.length) (fun k => w.length - k) 0 (by simp [go_sem]) (by omega) ?_
  intro k hk
  refine AWp.of_awpD [] hΓ hmix (by kernel_rfl) ?_
  by_cases hlt : k < w.length
  · have e1 : ((k : Int) + 1).toNat - k = 1 := by omega
    simp -implicitDefEqProofs only [hlt, e1, go_sem]
    have e2 : List.take 1 (w.drop k) ++ (w.take k).reverse = (w.take (k + 1)).reverse := by
      rw [List.take_succ_eq_append_getElem hlt, List.reverse_append, List.drop_eq_getElem_cons hlt]; rfl
    exact ⟨by simp only [InR]; omega, ⟨by omega, by omega⟩, by simp; omega, by simp only [InR]; omega, k + 1, ⟨e2.symm, by omega⟩, hlt, by omega⟩
  · simp -implicitDefEqProofs only [hlt, go_sem]
    rw [List.take_of_length_le (by omega)]

theorem u25 (q : Int) (ws : List (List UInt8)) : PFn Tryz.prog 84 [codeV q ws] [if codeCheck q ws = 0 then (if codeCheck q (made (revs ws)) = 0 then codeV q (made (revs ws)) else codeV 0 []) else codeV 0 [], .int .i64 (if codeCheck q ws = 0 then codeCheck q (made (revs ws)) else 1)] := by
  refine PFn.of_body hΓ Tryz.func84 (by kernel_rfl) rfl (AWp.of_awpD [] hΓ hmix (by kernel_rfl) ?_)
  simp +contextual -implicitDefEqProofs only [codeV, Tryz.ntmps84, Tryz.results84, Nat.reduceAdd, Nat.reduceSub, go_sem]
  refine callK_fn (t44 q ws) (.still rfl) ?_
  by_cases h : codeCheck q ws = 0
  · have hv := valid_of h
    have hws := hv.len
    have hsh : ∀ i (hi : i < ws.length), ws[i].length ≤ 32 := fun i hi => by
      have := hv.short i hi
      rwa [List.getD_eq_getElem?_getD, List.getElem?_eq_getElem hi, Option.getD_some] at this
    rw [h]
    simp -implicitDefEqProofs only [go_sem]
    refine AWp.adopt (l := []) 4 9 1 (by rfl) (by simp) ?_
    simp -implicitDefEqProofs only [go_sem]
    refine AWp.loopI (fun k : Nat => ⟨mkF 32 [(1, .ptr 0 0), (2, .ptr 1 0), (3, .p (.int .i64 0)), (4, .own 2 k), (5, .p (.int .i64 k))], [codeB q ws, .box [.p (.int .i64 0), .full []], .row 9 1 ((revs (ws.take k)).map .str) .lax]⟩)
      (fun k => k ≤ ws.length) (fun k => ws.length - k) 0 (by simp [go_sem, codeB, revs]) (by simp) ?_
    intro k hk
    by_cases hlt : k < ws.length
    · refine AWp.of_awpD [] hΓ hmix (by kernel_rfl) ?_
      simp -implicitDefEqProofs only [hlt, getD_map_lt, ↓reduceIte, codeB, go_sem]
      refine callK_fn (u59 ws[k] (by have := hsh k hlt; omega)) (.pures rfl) ?_
      simp -implicitDefEqProofs only [go_sem]
      have hs : revs (ws.take (k + 1)) = revs (ws.take k) ++ [ws[k].reverse] := by
        unfold revs; rw [List.take_succ_eq_append_getElem hlt, List.map_append]; rfl
      exact ⟨⟨size_str [_], by omega⟩, ⟨size_str [_], one_str [_]⟩, ⟨.inl (by omega), by omega, by omega⟩, by simp only [InR]; omega, k + 1, by rw [hs]; simp, hlt, by omega⟩
    · refine AWp.freeze 2 rfl ?_
      rw [List.take_of_length_le (by omega)]
      refine AWp.of_awpD [] hΓ hmix (by kernel_rfl) ?_
      simp -implicitDefEqProofs only [hlt, codeB, Frozen, go_sem]
      have e71 := u14 q (revs ws) (by simp [revs]; omega)
      by_cases hc : codeCheck q (made (revs ws)) = 0
      · rw [if_pos hc, hc] at e71
        refine callK_fn e71 (.pures rfl) ?_
        simp -implicitDefEqProofs only [codeV, hc, go_sem]
      · rw [if_neg hc] at e71
        refine callK_fn e71 (.pures rfl) ?_
        simp -implicitDefEqProofs only [codeV, hc, go_sem]
  · simp -implicitDefEqProofs only [h, go_sem]
end Go.Proofs.YtjjedaikbgfmmaaGreat
end

section
namespace Go.Proofs.YtjjedaikbgfmmaaGreat
open Go Go.AM
set_option maxRecDepth 100000
set_option maxHeartbeats 4000000
set_option linter.unusedSimpArgs false

theorem b41 (q : Int) (ws : List (List UInt8)) : PFn Tryz.prog 41 [codeV q ws] [.bool (if codeCheck q ws = 0 then prefB ws && suffB ws else false), .int .i64 (if codeCheck q ws = 0 then 0 else 1)] := by
  have e1 := u16 q ws
  have e2 := u18 q ws
  refine PFn.of_body hΓ Tryz.func41 (by kernel_rfl) rfl (AWp.of_awpD [] hΓ hmix (by kernel_rfl) ?_)
  unfold codeV at e1 e2 ⊢
  simp -implicitDefEqProofs only [Tryz.ntmps41, Tryz.results41, Nat.reduceAdd, Nat.reduceSub, go_sem]
  by_cases h : codeCheck q ws = 0
  · rw [if_pos h, if_pos h] at e1 e2 ⊢
    refine callK_fn e1 (.still rfl) ?_
    simp -implicitDefEqProofs only [go_sem]
    refine callK_fn e2 (.still rfl) ?_
    unfold prefB suffB
    cases aloneB (fun w x => x.isPrefixOf w) ws
    · simp -implicitDefEqProofs only [go_sem]
      rfl
    · simp -implicitDefEqProofs only [go_sem]
      try rfl
  · rw [if_neg h, if_neg h] at e1 e2 ⊢
    refine callK_fn e1 (.still rfl) ?_
    simp -implicitDefEqProofs only [go_sem]
    refine callK_fn e2 (.still rfl) ?_
    simp -implicitDefEqProofs only [go_sem]

theorem b43' (q : Int) (ws : List (List UInt8)) (hl : ws.length ≤ 9223372036854775807) :
    PFn Tryz.prog 43 [codeV q ws] [.bool (if codeCheck q ws = 0 then decide (made (revs ws) = ws) else false), .int .i64 (if codeCheck q ws = 0 then 0 else 1)] := by
  refine b43 q ws hl ?_
  have e := u25 q ws
  by_cases h : codeCheck q ws = 0
  · have hr := rev_valid (valid_of h)
    rw [if_pos h, if_pos h, if_pos hr, hr] at e
    rw [if_pos h, if_pos h]
    exact e
  · rw [if_neg h, if_neg h] at e ⊢
    exact e

theorem pruneW_code (q : Int) (ws : List (List UInt8)) (l : List Int) (hws : ws.length ≤ 9223372036854775807) : ∃ p us, pruneW q ws l = codeV p us ∧ us.length ≤ 9223372036854775807 := by
  unfold pruneW
  split
  · refine ⟨_, _, rfl, ?_⟩
    have h1 := made_le (pruneN (leftN ws l ws.length) (leftN ws l ws.length).length)
    have h2 := pruneN_len (leftN ws l ws.length) (leftN ws l ws.length).length
    have h3 := leftN_len ws l ws.length
    omega
  · exact ⟨0, [], rfl, by simp⟩

theorem b9 (q : Int) (ws : List (List UInt8)) (l : List Int) (hws : ws.length ≤ 9223372036854775807) (hl : l.length ≤ 9223372036854775807) : PFn Tryz.prog 9 [codeV q ws, .sl (l.map Kn.iV)] [.bool true] := by
  have eg := t11 q ws hws
  have e40 := b40 q ws
  have e41 := b41 q ws
  have e42 := b42 q ws hws
  have e43 := b43' q ws hws
  have e27 := cm27 q ws l hl
  have e44 := b44 q ws l hl
  obtain ⟨p, us, hpu, hus⟩ := pruneW_code q ws l hws
  have e25 := u23 p p us us hus
  rw [decide_eq_true ⟨rfl, rfl⟩] at e25
  rw [hpu] at e27 e44
  generalize pruneE q ws l = E at e27 e44
  generalize (if codeCheck q ws = 0 then prefB ws && suffB ws else false) = A at e40 e41
  generalize (if codeCheck q ws = 0 then decide (made (revs ws) = ws) else false) = S at e42 e43
  generalize (if codeCheck q ws = 0 then (0 : Int) else 1) = C at e40 e41 e42 e43
  refine PFn.of_body hΓ Tryz.func9 (by kernel_rfl) rfl (AWp.seq (AWp.of_awpD [] hΓ hmix (by kernel_rfl) ?_))
  simp -implicitDefEqProofs only [Tryz.ntmps9, Tryz.results9, Nat.reduceAdd, Nat.reduceSub, codeV, go_sem]
  unfold codeV at eg e40 e41 e42 e43 e27 e44 e25
  refine AWp.seq ?_
  refine AWp.of_awpD [] hΓ hmix (by kernel_rfl) ?_
  simp -implicitDefEqProofs only [go_sem]
  refine callK_fn eg (.still rfl) ?_
  cases hg : (greatC ws || ws.any greatW)
  rotate_left
  · simp -implicitDefEqProofs only [go_sem]
    refine callK_fn awake_ok (.pures rfl) ?_
    simp -implicitDefEqProofs only [go_sem]
  by_cases h10 : 10 < l.length
  · have h10' : (10 : Int) < (l.length : Int) := by omega
    simp -implicitDefEqProofs only [h10', List.length_map, go_sem]
    refine callK_fn awake_ok (.pures rfl) ?_
    simp -implicitDefEqProofs only [go_sem]
  have h10' : ¬ (10 : Int) < (l.length : Int) := by omega
  simp -implicitDefEqProofs only [h10', List.length_map, go_sem]
  refine AWp.of_awpD [] hΓ hmix (by kernel_rfl) ?_
  simp -implicitDefEqProofs only [go_sem]
  refine callK_fn e40 (.still rfl) ?_
  simp -implicitDefEqProofs only [go_sem]
  refine callK_fn e41 (.still rfl) ?_
  simp -implicitDefEqProofs only [go_sem]
  refine callK_fn e42 (.still rfl) ?_
  simp -implicitDefEqProofs only [go_sem]
  refine callK_fn e43 (.still rfl) ?_
  simp -implicitDefEqProofs only [go_sem]
  refine callK_fn e27 (.still rfl) ?_
  simp -implicitDefEqProofs only [go_sem]
  refine callK_fn e44 (.still rfl) ?_
  have hA : (A == A) = true := by simp
  have hS : (S == S) = true := by simp
  simp -implicitDefEqProofs only [hA, hS, go_sem]
  refine callK_fn e25 (.still rfl) ?_
  simp -implicitDefEqProofs only [hA, hS, go_sem]
  refine callK_fn awake_ok (.pures rfl) ?_
  simp -implicitDefEqProofs only [go_sem]
end Go.Proofs.YtjjedaikbgfmmaaGreat
end

