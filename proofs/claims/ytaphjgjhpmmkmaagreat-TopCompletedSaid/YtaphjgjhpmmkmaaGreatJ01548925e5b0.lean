/-
  parser.Check.
  Reading: parser.steps, Run and Position.
  parser.Position and parser.Run.
  parser.Run.
  The parser of a prefix code is one; the examples.
-/
import Derived.Test.YtaphjgjhpmmkmaaGreatJfd59b539e2d8
import Derived.Test.YtaphjgjhpmmkmaaGreatJbbbb85f88272
import Derived.Test.YtaphjgjhpmmkmaaGreatJ6ee584a52727

section
namespace Go.Proofs.YtaphjgjhpmmkmaaGreat
open Go Go.AM
set_option maxRecDepth 100000
set_option linter.unusedSimpArgs false

theorem rowW_all {x : List UInt8} {l : List Int} {n : Nat} : ∀ w ∈ rowW x l n, ∃ a, a < n ∧ w = stepW x a ∧ 0 ≤ l.getD a 0 := fun w hw => by
  unfold rowW at hw
  obtain ⟨a, ha, rfl⟩ := List.mem_map.1 hw
  obtain ⟨h1, h2⟩ := List.mem_filter.1 ha
  exact ⟨a, List.mem_range.1 h1, rfl, of_decide_eq_true h2⟩
theorem L16_inj : ∀ a b, a < 16 → b < 16 → L16.getD a 0 = L16.getD b 0 → a = b := by
  have : ∀ a, a < 16 → ∀ b, b < 16 → L16.getD a 0 = L16.getD b 0 → a = b := by decide
  exact fun a b ha hb h => this a ha b hb h
theorem stepW_inj {x y : List UInt8} {a b : Nat} (ha : a < 16) (hb : b < 16) (h : stepW x a = stepW y b) : x = y ∧ a = b := by
  unfold stepW at h
  obtain ⟨h1, h2⟩ := List.append_inj' h rfl
  exact ⟨h1, L16_inj a b ha hb (by injection h2)⟩
theorem rowW_nodup (x : List UInt8) (l : List Int) {n : Nat} (hn : n ≤ 16) : (rowW x l n).Nodup := by
  unfold rowW
  rw [List.Nodup, List.pairwise_map]
  refine ((List.nodup_range (n := n)).filter _).imp_of_mem ?_
  intro a b ha hb hne e
  have h1 := List.mem_range.1 (List.mem_filter.1 ha).1
  have h2 := List.mem_range.1 (List.mem_filter.1 hb).1
  exact hne (stepW_inj (by omega) (by omega) e).2
theorem emW_all {P : List (List UInt8)} {E : List (List Int)} : ∀ {m : Nat}, m ≤ P.length → ∀ w ∈ emW P E m, ∃ s, ∃ h : s < P.length, s < m ∧ ∃ a, a < 16 ∧ w = stepW P[s] a
  | m, hm, w, hw => by
    unfold emW at hw
    obtain ⟨s, hs, hw⟩ := List.mem_flatMap.1 hw
    have hs' := List.mem_range.1 hs
    have hsP : s < P.length := by omega
    obtain ⟨a, ha, rfl, _⟩ := rowW_all w hw
    refine ⟨s, hsP, hs', a, by omega, ?_⟩
    rw [List.getD_eq_getElem?_getD, List.getElem?_eq_getElem hsP]; rfl
theorem emW_nodup {P : List (List UInt8)} {E : List (List Int)} (hd : P.Nodup) : ∀ {m : Nat}, m ≤ P.length → (emW P E m).Nodup
  | 0, _ => by simp [emW]
  | m + 1, hm => by
    have h1 := emW_nodup (E := E) hd (m := m) (by omega)
    have hmP : m < P.length := hm
    have e : emW P E (m + 1) = emW P E m ++ rowW (P.getD m []) (E.getD m []) (min (E.getD m []).length 16) := by
      unfold emW; rw [List.range_succ, List.flatMap_append]; simp
    rw [e, List.nodup_append]
    refine ⟨h1, rowW_nodup _ _ (by omega), fun a ha b hb hab => ?_⟩
    subst hab
    obtain ⟨s, hsP, hsm, c, hc, rfl⟩ := emW_all (by omega) a ha
    obtain ⟨d, hd', he, _⟩ := rowW_all _ hb
    rw [List.getD_eq_getElem?_getD, List.getElem?_eq_getElem hmP] at he
    have := (stepW_inj hc (by omega) he).1
    have := nodup_at hd hsP hmP this
    omega
theorem emW_sub {P : List (List UInt8)} {E : List (List Int)} {m n : Nat} (h : m ≤ n) {w : List UInt8} (hw : w ∈ emW P E m) : w ∈ emW P E n := by
  unfold emW at hw ⊢
  obtain ⟨s, hs, hw⟩ := List.mem_flatMap.1 hw
  exact List.mem_flatMap.2 ⟨s, List.mem_range.2 (by have := List.mem_range.1 hs; omega), hw⟩

theorem nodup_len {α : Type} [DecidableEq α] : ∀ {l m : List α}, l.Nodup → (∀ a ∈ l, a ∈ m) → l.length ≤ m.length
  | [], _, _, _ => by simp
  | a :: l, m, h, hs => by
    rw [List.nodup_cons] at h
    have ha : a ∈ m := hs a (by simp)
    have h2 := nodup_len (l := l) (m := m.erase a) h.2 (fun b hb => by
      have hne : b ≠ a := fun e => h.1 (e ▸ hb)
      exact (List.mem_erase_of_ne hne).2 (hs b (by simp [hb])))
    have h3 := List.length_erase_of_mem ha
    have h4 : 0 < m.length := List.length_pos_of_mem ha
    simp; omega

/-! ### At most one reading -/
theorem nxP_length (q : Int) (ws : List (List UInt8)) : (nxP q ws).length = (prefs ws).length := by simp [nxP]
theorem emP_length (q : Int) (ws : List (List UInt8)) : (emP q ws).length = (prefs ws).length := by simp [emP]
theorem IsPar.facts {q : Int} {P : List (List UInt8)} {N E : List (List Int)} (h : IsPar q P N E) : 2 ≤ q ∧ q ≤ 16 ∧ P.length = N.length ∧ P.length = E.length ∧ (∀ l ∈ N, (l.length : Int) = q) ∧ (∀ l ∈ E, (l.length : Int) = q) ∧ (∀ x ∈ P, x.length < 32) ∧
    ∀ s, s ≤ P.length → (emW P E s).length ≤ 64 := by
  obtain ⟨h1, h2, h3, h4, h5⟩ := h
  have hv := valid_of h1
  have hq2 := hv.q2
  have hN := (nxP_len hv).2
  have hE := (emP_len hv).2
  have hl : P.length = E.length := by
    have g1 := congrArg List.length h3
    have g2 := congrArg List.length h5
    rw [emP_length] at g2; omega
  have hl2 : P.length = N.length := by
    have g1 := congrArg List.length h3
    have g2 := congrArg List.length h4
    rw [nxP_length] at g2; omega
  refine ⟨hq2, hv.q16, hl2, hl, fun l hl => ?_, fun l hl => ?_, fun x hx => ?_, fun s hs => ?_⟩
  · rw [← h4] at hl
    rw [hN l hl]; omega
  · rw [← h5] at hl
    rw [hE l hl]; omega
  · rw [← h3] at hx
    obtain ⟨w, hw, _, h7⟩ := mem_prefs.1 hx
    have := (hv.words w hw).2.1
    omega
  · have hPd : P.Nodup := by rw [← h3]; exact prefs_nodup _
    have hn := emW_nodup (E := E) hPd hs
    refine Nat.le_trans (nodup_len hn (m := codeP P E) fun a ha => ?_) hv.len
    unfold codeP
    exact mem_made.2 (emW_sub (by omega) ha)
theorem parCheck_no {q : Int} {P : List (List UInt8)} {N E : List (List Int)} (h : ¬ IsPar q P N E) : (1 : Int) = parCheck q P N E := by unfold parCheck; rw [if_neg h]

def chH (qn : Nat) (P : List (List UInt8)) (N E : List (List Int)) (L : List (List UInt8)) : List AObj :=
  [.box [.p (.int .i64 qn), .p (.sl (P.map .str)), .p (.sl (N.map slI)), .p (.sl (E.map slI))], .box [.p (.int .i64 qn), .own 2 L.length], .row 9 1 (L.map .str) .lax]

set_option maxHeartbeats 2000000 in
theorem p18 (q : Int) (P : List (List UInt8)) (N E : List (List Int)) (hP : P.length ≤ 64) (hPs : ∀ x ∈ P, x.length ≤ 1000) :
    PFn Tryz.prog 79 [psV q P N E] [.int .i64 (parCheck q P N E)] := by
  refine PFn.of_body hΓ Tryz.func79 (by kernel_rfl) rfl (AWp.seq (AWp.of_awpD [] hΓ hmix (by kernel_rfl) ?_))
  simp -implicitDefEqProofs only [Tryz.ntmps79, Tryz.results79, Nat.reduceAdd, Nat.reduceSub, psV, go_sem]
  refine AWp.seq (AWp.seq (AWp.of_awpD [] hΓ hmix (by kernel_rfl) ?_))
  by_cases h1 : P.length = N.length
  rotate_left
  · have h1' : ¬ (P.length : Int) = N.length := by omega
    simp -implicitDefEqProofs only [h1, h1', List.length_map, go_sem]
    refine AWp.of_awpD [] hΓ hmix (by kernel_rfl) ?_
    simp -implicitDefEqProofs only [go_sem]
    exact parCheck_no fun h => h1 h.facts.2.2.1
  by_cases h2 : P.length = E.length
  rotate_left
  · have h2' : ¬ (P.length : Int) = E.length := by omega
    have h2'' : ¬ N.length = E.length := by omega
    have h2''' : ¬ (N.length : Int) = E.length := by omega
    simp -implicitDefEqProofs only [h1, h2, h2', h2'', h2''', List.length_map, go_sem]
    refine AWp.of_awpD [] hΓ hmix (by kernel_rfl) ?_
    simp -implicitDefEqProofs only [go_sem]
    exact parCheck_no fun h => h2 h.facts.2.2.2.1
  have hne : N.length = E.length := by omega
  by_cases h3 : q < 2
  · simp -implicitDefEqProofs only [h1, hne, h3, List.length_map, go_sem]
    refine ⟨by omega, ?_⟩
    refine AWp.of_awpD [] hΓ hmix (by kernel_rfl) ?_
    simp -implicitDefEqProofs only [go_sem]
    exact parCheck_no fun h => by have := h.facts.1; omega
  by_cases h4 : 16 < q
  · simp -implicitDefEqProofs only [h1, hne, h3, h4, List.length_map, go_sem]
    refine ⟨by omega, by omega, ?_⟩
    refine AWp.of_awpD [] hΓ hmix (by kernel_rfl) ?_
    simp -implicitDefEqProofs only [go_sem]
    exact parCheck_no fun h => by have := h.facts.2.1; omega
  obtain ⟨qn, rfl⟩ := Int.eq_ofNat_of_zero_le (show 0 ≤ q by omega)
  simp -implicitDefEqProofs only [h1, hne, h3, h4, List.length_map, go_sem]
  refine ⟨by omega, by omega, ?_⟩
  refine AWp.of_awpD [] hΓ hmix (by kernel_rfl) ?_
  simp -implicitDefEqProofs only [go_sem]
  refine AWp.seq (AWp.of_awpD [] hΓ hmix (by kernel_rfl) ?_)
  simp -implicitDefEqProofs only [go_sem]
  refine ⟨by omega, by omega, ?_⟩
  refine AWp.adoptCell (l := []) 1 1 9 1 rfl rfl (by simp) ?_
  simp -implicitDefEqProofs only [List.set_cons_zero, List.set_cons_succ, go_sem]
  refine AWp.seq (AWp.seq (AWp.of_awpD [] hΓ hmix (by kernel_rfl) ?_))
  simp -implicitDefEqProofs only [List.length_map, go_sem]
  refine AWp.block ?_
  refine AWp.mono (Q := fun e st => (e = .ret ∧ st.tmps.getD 2 .junk = .p (.int .i64 (parCheck qn P N E))) ∨ (e = .exit 0 ∧ (∀ l ∈ E, l.length = qn) ∧ Weak st ⟨mkF 125 [(1, .ptr 0 0), (3, .ptr 1 0)], chH qn P N E (emW P E P.length)⟩)) ?_ ?_
  · refine AWp.loopI (fun s : Nat => ⟨mkF 125 [(1, .ptr 0 0), (3, .ptr 1 0), (39, .p (.sl (P.map .str))), (40, .p (.int .i64 P.length)), (41, .p (.int .i64 s))], chH qn P N E (emW P E s)⟩)
      (fun s => s ≤ P.length ∧ ∀ l ∈ E.take s, l.length = qn) (fun s => P.length - s) 0 (by simp [go_sem, chH, emW, h1, h2]) (by simp) ?_
    rintro s ⟨hs, hq⟩
    simp -implicitDefEqProofs only [chH, go_sem]
    refine AWp.of_awpD [(7, 31), (13, 1000)] hΓ hmix (by kernel_rfl) ?_
    by_cases hlt : s < P.length
    · have hsN : s < N.length := by omega
      have hsE : s < E.length := by omega
      by_cases hA : N[s].length = qn
      rotate_left
      · simp -implicitDefEqProofs only [hlt, hsN, hsE, getD_map_lt, ↓reduceIte, List.length_map, slI, hA, go_sem]
        exact ⟨by omega, .inl (parCheck_no fun h => hA (by have := h.facts.2.2.2.2.1 _ (List.getElem_mem hsN); omega))⟩
      by_cases hB : E[s].length = qn
      rotate_left
      · simp -implicitDefEqProofs only [hlt, hsN, hsE, getD_map_lt, ↓reduceIte, List.length_map, slI, hA, hB, go_sem]
        exact ⟨by omega, by omega, .inl (parCheck_no fun h => hB (by have := h.facts.2.2.2.2.2.1 _ (List.getElem_mem hsE); omega))⟩
      by_cases hC : (32 : Int) ≤ P[s].length
      · simp -implicitDefEqProofs only [hlt, hsN, hsE, getD_map_lt, ↓reduceIte, List.length_map, slI, hA, hB, hC, go_sem]
        exact ⟨by omega, by omega, .inl (parCheck_no fun h => by have := h.facts.2.2.2.2.2.2.1 _ (List.getElem_mem hlt); omega)⟩
      by_cases hD : (64 : Int) < (emW P E s).length
      · simp -implicitDefEqProofs only [hlt, hsN, hsE, getD_map_lt, ↓reduceIte, List.length_map, slI, hA, hB, hC, hD, go_sem]
        exact ⟨by omega, by omega, .inl (parCheck_no fun h => by have := h.facts.2.2.2.2.2.2.2 s hs; omega)⟩
      simp -implicitDefEqProofs only [hlt, hsN, hsE, getD_map_lt, ↓reduceIte, List.length_map, slI, hA, hB, hC, hD, go_sem]
      refine ⟨by omega, by omega, ?_⟩
      have hPl := hPs _ (List.getElem_mem hlt)
      refine AWp.loopI (fun a : Nat => ⟨mkF 125 [(1, .ptr 0 0), (3, .ptr 1 0), (5, .p (.str P[s])), (39, .p (.sl (P.map .str))), (40, .p (.int .i64 P.length)), (41, .p (.int .i64 s)), (81, .p (slI E[s])), (82, .p (.int .i64 qn)), (83, .p (.int .i64 a))], chH qn P N E (emW P E s ++ rowW P[s] E[s] a)⟩)
        (fun a => a ≤ qn) (fun a => qn - a) 0 (by simp [go_sem, chH, rowW, slI]) (by simp) ?_
      intro a ha
      simp -implicitDefEqProofs only [chH, slI, go_sem]
      refine AWp.of_awpD [(13, 1000)] hΓ hmix (by kernel_rfl) ?_
      by_cases hla : a < qn
      · have hl1 : a < E[s].length := by omega
        have h5 := emW_len P E s
        have h6 := rowW_len P[s] E[s] a
        by_cases hem : 0 ≤ E[s][a]
        · have hr := rowW_yes (x := P[s]) hl1 hem
          simp -implicitDefEqProofs only [hla, hl1, getD_map_lt, ↓reduceIte, List.length_map, hem, go_sem]
          refine AWp.planL (.q 0 (.q 1 (.q 2 (.q 3 (.q 4 (.q 5 (.q 6 (.q 7 (.q 8 (.e 9 (.q 10 (.e 11 .fin .nil)) .nil)))))))))) hΓ hmix (by kernel_rfl) ?_
          simp -implicitDefEqProofs only [lett_at (show a < 16 by omega), step_eq, List.length_singleton, go_sem]
          have hs1 := size_strs [stepW P[s] a]
          have ho1 := one_strs [stepW P[s] a]
          simp only [List.map_cons, List.map_nil] at hs1 ho1
          refine ⟨by simp only [InR]; omega, ⟨by omega, by omega⟩, by omega, ⟨hs1, by omega⟩, ⟨hs1, ho1⟩, ⟨.inl (by omega), by rw [List.length_append]; omega, by rw [List.length_append]; omega⟩, by simp only [InR]; omega, a + 1, ⟨⟨rfl, by simp⟩, ?_⟩, hla, by omega⟩
          rw [hr, ← List.append_assoc]
          unfold chH
          rw [List.map_append, List.length_append (bs := [stepW P[s] a])]
          simp [weakH, laxer]
        · have hr := rowW_no (x := P[s]) hl1 hem
          simp -implicitDefEqProofs only [hla, hl1, getD_map_lt, ↓reduceIte, List.length_map, hem, go_sem]
          exact ⟨by simp only [InR]; omega, a + 1, ⟨⟨rfl, by simp⟩, by rw [hr]; exact weakH_refl _⟩, hla, by omega⟩
      · have hal : a = qn := by omega
        have hr := emW_succ (P := P) (E := E) hlt hsE
        rw [show min E[s].length 16 = qn by omega, ← hal] at hr
        rw [← hr]
        simp -implicitDefEqProofs only [hla, go_sem]
        refine ⟨by simp only [InR]; omega, s + 1, ⟨by simp, weakH_refl _⟩, ⟨hlt, fun l hl => ?_⟩, by omega⟩
        rw [List.take_succ_eq_append_getElem hsE, List.mem_append, List.mem_singleton] at hl
        exact hl.elim (hq l) (fun e => by rw [e]; exact hB)
    · have hsl : s = P.length := by omega
      simp -implicitDefEqProofs only [hlt, go_sem]
      rw [hsl, h2] at hq
      refine .inr ⟨fun l hl => hq l (by rw [List.take_length]; exact hl), ?_⟩
      rw [hsl]
      exact weakH_refl _
  rintro e st (⟨rfl, hr⟩ | ⟨rfl, hq, hw⟩)
  · change AM.Ends _ ∧ _
    exact ⟨by first | trivial | rfl | simp [AM.Ends], by rw [hr]; rfl⟩
  show AWp _ _ _ _ _
  refine AWp.weak hw ?_
  clear hw
  simp -implicitDefEqProofs only [chH, go_sem]
  have ht71 := t71 qn (emW P E P.length) (by have := emW_len P E P.length; omega)
  have hmin : min E.length P.length = P.length := by omega
  have hC : made (emW P E P.length) = codeP P E := by unfold codeP; rw [hmin]
  rw [hC] at ht71
  refine AWp.freeze 2 rfl ?_
  simp -implicitDefEqProofs only [Frozen, AV.thaw, AObj.thaw, AV.thaw.thawL, List.map_cons, List.map_nil, List.set_cons_zero, List.set_cons_succ, go_sem]
  by_cases hc : codeCheck qn (codeP P E) = 0
  rotate_left
  · rw [if_neg hc] at ht71
    have hno := parCheck_no (q := qn) (P := P) (N := N) (E := E) fun h => hc h.1
    rw [← hno]
    generalize codeCheck qn (codeP P E) = ee at *
    refine AWp.of_awpD [(17, 14)] hΓ hmix (by kernel_rfl) ?_
    simp -implicitDefEqProofs only [go_sem]
    refine ⟨by omega, callK_fn ht71 (.pures rfl) ?_⟩
    simp -implicitDefEqProofs only [codeV, hc, go_sem]
  have hv := valid_of hc
  have e44 := p44 qn (codeP P E)
  have e45 := p45 hv
  have hpl := prefs_len hv
  have hNl := nxP_len hv
  have hMl := emP_len hv
  have e55 := p55 qn qn (prefs (codeP P E)) P (nxP qn (codeP P E)) (emP qn (codeP P E)) N E (by omega) (by omega) (by omega) (fun x hx => by rw [hNl.2 x hx]; omega) (fun x hx => by rw [hMl.2 x hx]; omega)
  rw [if_pos hc, hc] at ht71
  rw [show aloneB (fun w x => x.isPrefixOf w) (codeP P E) = preB (codeP P E) from rfl, hc] at e44
  refine AWp.of_awpD [(17, 14)] hΓ hmix (by kernel_rfl) ?_
  simp -implicitDefEqProofs only [go_sem]
  refine ⟨by omega, callK_fn ht71 (.pures rfl) ?_⟩
  cases hp : preB (codeP P E)
  · have hno := parCheck_no (q := qn) (P := P) (N := N) (E := E) fun h => by rw [h.2.1] at hp; cases hp
    rw [← hno]
    rw [hp] at e44
    simp -implicitDefEqProofs only [codeV, go_sem]
    refine callVPK_fn e44 (.still rfl) ?_
    simp -implicitDefEqProofs only [Bool.and_false, go_sem]
  · rw [hp] at e44
    have e5 : parCheck qn P N E = if decide ((qn : Int) = qn ∧ prefs (codeP P E) = P ∧ nxP qn (codeP P E) = N ∧ emP qn (codeP P E) = E) = true then 0 else 1 := by
      unfold parCheck
      by_cases hh : prefs (codeP P E) = P ∧ nxP qn (codeP P E) = N ∧ emP qn (codeP P E) = E
      · have hI : IsPar qn P N E := ⟨hc, hp, hh⟩
        rw [if_pos hI, if_pos (decide_eq_true ⟨rfl, hh⟩)]
      · have hI : ¬ IsPar qn P N E := fun e => hh e.2.2
        rw [if_neg hI, if_neg (by rw [decide_eq_true_eq]; exact fun e => hh e.2)]
    rw [e5]
    clear e5
    generalize decide ((qn : Int) = qn ∧ prefs (codeP P E) = P ∧ nxP qn (codeP P E) = N ∧ emP qn (codeP P E) = E) = b at *
    unfold parV at e45
    simp -implicitDefEqProofs only [codeV, go_sem]
    refine callVPK_fn e44 (.still rfl) ?_
    simp -implicitDefEqProofs only [Bool.and_true, go_sem]
    refine callVPK_fn e45 (.still rfl) ?_
    unfold psV at e55
    simp -implicitDefEqProofs only [psV, go_sem]
    refine callVPK_fn e55 (.still rfl) ?_
    cases b
    · simp -implicitDefEqProofs only [go_sem]
    · simp -implicitDefEqProofs only [go_sem]
end Go.Proofs.YtaphjgjhpmmkmaaGreat
end

section
namespace Go.Proofs.YtaphjgjhpmmkmaaGreat
open Go Go.AM
set_option maxRecDepth 100000
set_option linter.unusedSimpArgs false

def digN (b : UInt8) : Nat := (ixB b L16 0).toNat
def stp (N : List (List Int)) (s d : Nat) : Int := (N.getD s []).getD d (-1)
def trail (N E : List (List Int)) : Nat → List UInt8 → List (Int × Nat)
  | _, [] => []
  | s, b :: w => if stp N s (digN b) < 0 then [] else (stp E s (digN b), (stp N s (digN b)).toNat) :: trail N E (stp N s (digN b)).toNat w
def endS (s : Nat) (tr : List (Int × Nat)) : Nat := (tr.getLast?.map (·.2)).getD s
theorem endS_nil (s : Nat) : endS s [] = s := rfl
theorem endS_snoc (s : Nat) (d : List (Int × Nat)) (e : Int) (n : Nat) : endS s (d ++ [(e, n)]) = n := by unfold endS; simp
theorem endS_cons (s : Nat) (e : Int) (n : Nat) (d : List (Int × Nat)) : endS s ((e, n) :: d) = endS n d := by
  unfold endS
  cases d with
  | nil => simp
  | cons x d =>
    rw [List.getLast?_cons_cons]
    cases h : (x :: d).getLast? with
    | none => simp at h
    | some y => rfl
theorem trail_len (N E : List (List Int)) : ∀ (w : List UInt8) (s : Nat), (trail N E s w).length ≤ w.length
  | [], s => by simp [trail]
  | b :: w, s => by
    unfold trail
    split
    · simp
    · have := trail_len N E w (stp N s (digN b)).toNat
      simp only [List.length_cons]; omega
theorem trail_stop {N E : List (List Int)} : ∀ {w : List UInt8} {s i : Nat} (hi : i < w.length), i ≤ (trail N E s w).length → stp N (endS s ((trail N E s w).take i)) (digN w[i]) < 0 → (trail N E s w).length = i
  | b :: w, s, 0, hi, hle, h => by
    rw [List.take_zero, endS_nil] at h
    unfold trail
    rw [if_pos (by simpa using h)]; rfl
  | b :: w, s, i + 1, hi, hle, h => by
    unfold trail at hle h ⊢
    by_cases hn : stp N s (digN b) < 0
    · rw [if_pos hn] at hle; simp at hle
    · rw [if_neg hn] at hle h ⊢
      rw [List.take_succ_cons, endS_cons] at h
      have := trail_stop (w := w) (s := (stp N s (digN b)).toNat) (i := i) (by simpa using hi) (by simpa using hle) (by simpa using h)
      simpa using this
theorem trail_next {N E : List (List Int)} : ∀ {w : List UInt8} {s i : Nat} (hi : i < w.length), i ≤ (trail N E s w).length → ¬ stp N (endS s ((trail N E s w).take i)) (digN w[i]) < 0 →
    ∃ h : i < (trail N E s w).length, (trail N E s w)[i] = (stp E (endS s ((trail N E s w).take i)) (digN w[i]), (stp N (endS s ((trail N E s w).take i)) (digN w[i])).toNat)
  | b :: w, s, 0, hi, hle, h => by
    rw [List.take_zero, endS_nil] at h
    simp only [List.getElem_cons_zero] at h
    have e : trail N E s (b :: w) = (stp E s (digN b), (stp N s (digN b)).toNat) :: trail N E (stp N s (digN b)).toNat w := by
      conv => lhs; unfold trail
      rw [if_neg h]
    refine ⟨by rw [e]; simp, ?_⟩
    simp only [e, List.getElem_cons_zero, List.take_zero, endS_nil]
  | b :: w, s, i + 1, hi, hle, h => by
    by_cases hn : stp N s (digN b) < 0
    · unfold trail at hle; rw [if_pos hn] at hle; simp at hle
    · have e : trail N E s (b :: w) = (stp E s (digN b), (stp N s (digN b)).toNat) :: trail N E (stp N s (digN b)).toNat w := by
        conv => lhs; unfold trail
        rw [if_neg hn]
      rw [e] at hle h
      rw [List.take_succ_cons, endS_cons] at h
      obtain ⟨h1, h2⟩ := trail_next (E := E) (w := w) (s := (stp N s (digN b)).toNat) (i := i) (by simpa using hi) (by simpa using hle) (by simpa using h)
      refine ⟨by rw [e]; simpa using h1, ?_⟩
      simp only [e, List.getElem_cons_succ, List.take_succ_cons, endS_cons]
      exact h2

structure Tbl (q : Nat) (N E : List (List Int)) : Prop where
  len : N.length = E.length
  rowN : ∀ l ∈ N, l.length = q
  rowE : ∀ l ∈ E, l.length = q
  next : ∀ l ∈ N, ∀ x ∈ l, x < N.length
theorem stp_at {N : List (List Int)} {s d : Nat} (hs : s < N.length) (hd : d < N[s].length) : stp N s d = N[s][d] := by
  unfold stp
  simp [List.getD_eq_getElem?_getD, hs, hd]
theorem endS_lt {q : Nat} {N E : List (List Int)} (hT : Tbl q N E) (hq : 0 < q) : ∀ (w : List UInt8) (s i : Nat), (∀ b ∈ w, digN b < q) → s < N.length → endS s ((trail N E s w).take i) < N.length
  | [], s, i, _, hs => by simp [trail, endS_nil]; exact hs
  | b :: w, s, 0, _, hs => by simp [endS_nil]; exact hs
  | b :: w, s, i + 1, hb, hs => by
    unfold trail
    split
    · simp [endS_nil]; exact hs
    · rename_i hn
      rw [List.take_succ_cons, endS_cons]
      refine endS_lt hT hq w _ i (fun c hc => hb c (by simp [hc])) ?_
      have hbq := hb b (by simp)
      have hrow := hT.rowN _ (List.getElem_mem hs)
      have hd : digN b < N[s].length := by omega
      rw [stp_at hs hd] at hn ⊢
      have := hT.next _ (List.getElem_mem hs) _ (List.getElem_mem hd)
      omega
theorem dig_of {q : Int} {w : List UInt8} (h : okW q w = true) : ∀ b ∈ w, 0 ≤ ixB b L16 0 ∧ ixB b L16 0 < q := fun b hb => by
  have := List.all_eq_true.1 h b hb
  unfold okB at this
  simp only [Bool.and_eq_true, decide_eq_true_eq] at this
  exact this

theorem p88 (b : UInt8) : PFn Tryz.prog 81 [.int .u8 b.toNat] [.int .i64 (ixB b L16 0)] := by
  have e := t101 L16 b.toNat
  have eb : ((b.toNat : Nat) : Int).toNat.toUInt8 = b := by simp
  rw [eb] at e
  refine PFn.of_body hΓ Tryz.func81 (by kernel_rfl) rfl (AWp.of_awpD [] hΓ hmix (by kernel_rfl) ?_)
  simp +contextual -implicitDefEqProofs only [Tryz.ntmps81, Tryz.results81, Nat.reduceAdd, Nat.reduceSub, go_sem]
  refine callK_fn e (.pures rfl) ?_
  simp -implicitDefEqProofs only [go_sem]

def psB (q : Int) (P : List (List UInt8)) (N E : List (List Int)) : AObj := .box [.p (.int .i64 q), .p (.sl (P.map .str)), .p (.sl (N.map slI)), .p (.sl (E.map slI))]

theorem c64 {h : List AObj} (q : Int) (P : List (List UInt8)) (N E : List (List Int)) (s : Int) (w : List UInt8) :
    AC Tryz.prog 48 [.agg [.p (.int .i64 q), .p (.sl (P.map .str)), .p (.sl (N.map slI)), .p (.sl (E.map slI))], .p (.int .i64 s), .p (.str w)] h []
      (fun v h' => v = .fn 80 [.ptr (h.length + 2) 0, .ptr h.length 0, .ptr (h.length + 1) 0] ∧ h' = h ++ [psB q P N E, .box [.p (.int .i64 s)], .box [.p (.str w)]]) := by
  refine AC.of_bodyE hΓ Tryz.func48 (by kernel_rfl) rfl (AWp.mono (Q := fun e st => AM.Ends e ∧ st.tmps.getD 6 .junk = .fn 80 [.ptr (h.length + 2) 0, .ptr h.length 0, .ptr (h.length + 1) 0] ∧ st.h = h ++ [psB q P N E, .box [.p (.int .i64 s)], .box [.p (.str w)]]) ?_ ?_)
  rotate_left
  · rintro e ⟨tm, h'⟩ ⟨he, h1, h2⟩
    simp only at h1 h2
    subst h2
    refine ⟨he, _, Less.refl _, ?_⟩
    unfold DoneE
    simp +contextual -implicitDefEqProofs only [Tryz.results48, h1, go_sem]
    exact ⟨_, by simp, .inl rfl, List.take_length⟩
  refine AWp.of_awpD [] hΓ hmix (by kernel_rfl) ?_
  simp -implicitDefEqProofs only [Tryz.ntmps48, Nat.reduceAdd, Nat.reduceSub, psB, go_sem]
  simp

theorem c87 {b cw cp cs : Nat} {ks : List Nat} (hbk : b ∉ ks) (hwk : cw ∉ ks) (hpk : cp ∉ ks) (hsk : cs ∉ ks) (qn : Nat) (P : List (List UInt8)) (N E : List (List Int)) (hT : Tbl qn N E) (s0 : Nat) (hs0 : s0 < N.length) (w : List UInt8) (hw : okW qn w = true) (hwl : w.length ≤ 100000)
    (H : List (Int × Nat) → List AObj) (hlen : ∀ d, (H []).length ≤ (H d).length) (hbw : ∀ d, (H d)[cw]? = some (.box [.p (.str w)])) (hbp : ∀ d, (H d)[cp]? = some (psB qn P N E))
    (hbs : ∀ d, (H d)[cs]? = some (.box [.p (.int .i64 (endS s0 d))]))
    (hround : ∀ d e n, (∃ l, d ++ (e, n) :: l = trail N E s0 w) → YC Tryz.prog b [.p (.int .i64 e), .p (.int .i64 (n : Nat))] ((H d).set cs (.box [.p (.int .i64 (n : Nat))])) ks (fun v h' => v = .p (.bool true) ∧ h' = H (d ++ [(e, n)]))) :
    AC Tryz.prog 80 [.yld b, .ptr cw 0, .ptr cp 0, .ptr cs 0] (H []) ks (fun _ h' => h' = H (trail N E s0 w)) := by
  have hq0 : 0 < qn ∨ w = [] := by
    cases w with
    | nil => exact .inr rfl
    | cons c w => have := dig_of hw c (by simp); exact .inl (by omega)
  have hnc : cs ≠ cp := fun e => by
    have h1 := hbs []
    have h2 := hbp []
    rw [e, h2] at h1
    simp [psB] at h1
  have hnw : cs ≠ cw := fun e => by
    have h1 := hbs []
    have h2 := hbw []
    rw [e, h2] at h1
    simp at h1
  have nb : ∀ {k}, k ∈ ks → b ≠ k := fun h e => hbk (e ▸ h)
  have nw : ∀ {k}, k ∈ ks → cw ≠ k := fun h e => hwk (e ▸ h)
  have np : ∀ {k}, k ∈ ks → cp ≠ k := fun h e => hpk (e ▸ h)
  have ns : ∀ {k}, k ∈ ks → cs ≠ k := fun h e => hsk (e ▸ h)
  refine AC.of_bodyE hΓ Tryz.func80 (by kernel_rfl) rfl (AWp.mono (Q := fun e st => AM.Ends e ∧ st.h = H (trail N E s0 w)) ?_ ?_)
  rotate_left
  · rintro e ⟨tm, h'⟩ ⟨he, h2⟩
    simp only at h2
    subst h2
    refine ⟨he, _, Less.refl _, ?_⟩
    unfold DoneE
    simp +contextual -implicitDefEqProofs only [Tryz.results80, go_sem]
    exact ⟨_, hlen _, .inl rfl, List.take_length⟩
  refine AWp.of_awpD [] hΓ hmix (by kernel_rfl) ?_
  simp -implicitDefEqProofs only [Tryz.ntmps80, Nat.reduceAdd, Nat.reduceSub, hbw, go_sem]
  refine AWp.loopI (fun i : Nat => ⟨mkF 48 [(0, .yld b), (1, .ptr cw 0), (2, .ptr cp 0), (3, .ptr cs 0), (9, .p (.int .i64 w.length)), (10, .p (.int .i64 i))], H ((trail N E s0 w).take i)⟩)
    (fun i => i ≤ w.length ∧ i ≤ (trail N E s0 w).length) (fun i => w.length - i) 0 (by simp [go_sem, weakH_self]) (by simp) ?_
  rintro i ⟨hi, hit⟩
  simp -implicitDefEqProofs only [go_sem]
  refine AWp.of_awpD [] hΓ hmix (by kernel_rfl) ?_
  by_cases hlt : i < w.length
  · have hdw := dig_of hw w[i] (List.getElem_mem hlt)
    have hq : 0 < qn := hq0.elim id fun e => by rw [e] at hlt; simp at hlt
    have hgB := hbw ((trail N E s0 w).take i)
    have hgP := hbp ((trail N E s0 w).take i)
    have hgS := hbs ((trail N E s0 w).take i)
    have hsl := endS_lt hT hq w s0 i (fun c hc => by have := dig_of hw c hc; unfold digN; omega) hs0
    have hstop := trail_stop (N := N) (E := E) (s := s0) hlt hit
    have hnext := trail_next (N := N) (E := E) (s := s0) hlt hit
    have e88 := p88 w[i]
    have hwd : w.getD i 0 = w[i] := by rw [List.getD_eq_getElem?_getD, List.getElem?_eq_getElem hlt]; rfl
    rw [show ixB w[i] L16 0 = (digN w[i] : Int) by unfold digN; omega, ← hwd] at e88
    have hdq : digN w[i] < qn := by unfold digN; omega
    simp -implicitDefEqProofs only [hlt, hgB, go_sem]
    refine callK_fn e88 (.pures rfl) ?_
    rw [hwd]
    generalize hs : endS s0 ((trail N E s0 w).take i) = s at *
    generalize digN w[i] = d at *
    have hsE : s < E.length := by have := hT.len; omega
    have hdN : d < N[s].length := by rw [hT.rowN _ (List.getElem_mem hsl)]; exact hdq
    have hdE : d < E[s].length := by rw [hT.rowE _ (List.getElem_mem hsE)]; exact hdq
    rw [stp_at hsl hdN] at hstop hnext
    rw [stp_at hsE hdE] at hnext
    unfold psB at hgP
    by_cases hneg : N[s][d] < 0
    · simp -implicitDefEqProofs only [hgP, hgS, hsl, hdN, getD_map_lt, ↓reduceIte, List.length_map, slI, hneg, go_sem]
      rw [List.take_of_length_le (by rw [hstop hneg]; omega)]
    · obtain ⟨ht1, ht2⟩ := hnext hneg
      have hnx := hT.next _ (List.getElem_mem hsl) _ (List.getElem_mem hdN)
      obtain ⟨n, hn⟩ := Int.eq_ofNat_of_zero_le (show 0 ≤ N[s][d] by omega)
      have hset : ∀ X : AObj, ((H ((trail N E s0 w).take i)).set cs X)[cs]? = some X := fun X => List.getElem?_set_self (List.getElem?_eq_some_iff.1 hgS).1
      rw [hn, Int.toNat_natCast] at ht2
      have hr := hround ((trail N E s0 w).take i) E[s][d] n ⟨(trail N E s0 w).drop (i + 1), by
        rw [← ht2]
        conv => rhs; rw [← List.take_append_drop i (trail N E s0 w)]
        rw [List.drop_eq_getElem_cons ht1]⟩
      simp -implicitDefEqProofs only [hgP, hgS, hsl, hsE, hdN, hdE, getD_map_lt, ↓reduceIte, List.length_map, slI, hneg, hn, hset, show ¬ (n : Int) < 0 by omega, go_sem]
      refine callK_yc hr (fun k hk => .inr hk) ?_
      rintro v h' ⟨rfl, rfl⟩
      rw [killAll_keep (fun k hk => by simp [AV.kill, AV.kill.killL, nb hk, nw hk, np hk, ns hk])]
      simp -implicitDefEqProofs only [go_sem]
      refine ⟨by simp only [InR]; omega, i + 1, ⟨by simp, ?_⟩, ⟨hlt, ht1⟩, by omega⟩
      rw [List.take_succ_eq_append_getElem ht1, ht2]
      exact weakH_refl _
  · have hil : i = w.length := by omega
    have htl := trail_len N E w s0
    have hz : ¬ (i : Int) < w.length := by omega
    simp -implicitDefEqProofs only [hlt, hz, go_sem]
    rw [List.take_of_length_le (by omega)]

theorem p63 (q : Int) (P : List (List UInt8)) (N E : List (List Int)) (w : List UInt8) (hP : P.length ≤ 64) (hPs : ∀ x ∈ P, x.length ≤ 1000) :
    PFn Tryz.prog 47 [psV q P N E, .str w] [.int .i64 (if parCheck q P N E = 0 then wordCheck q w else 1)] := by
  have e18 := p18 q P N E hP hPs
  have e57 := t80 q w
  unfold psV at e18
  by_cases h : parCheck q P N E = 0
  · rw [h] at e18
    rw [if_pos h]
    refine PFn.of_body hΓ Tryz.func47 (by kernel_rfl) rfl (AWp.of_awpD [] hΓ hmix (by kernel_rfl) ?_)
    simp -implicitDefEqProofs only [Tryz.ntmps47, Tryz.results47, Nat.reduceAdd, Nat.reduceSub, psV, go_sem]
    refine callK_fn e18 (.still rfl) ?_
    simp -implicitDefEqProofs only [go_sem]
    refine ⟨by omega, callK_fn e57 (.pures rfl) ?_⟩
    simp -implicitDefEqProofs only [go_sem]
  · rw [if_neg h]
    refine PFn.of_body hΓ Tryz.func47 (by kernel_rfl) rfl (AWp.of_awpD [] hΓ hmix (by kernel_rfl) ?_)
    simp -implicitDefEqProofs only [Tryz.ntmps47, Tryz.results47, Nat.reduceAdd, Nat.reduceSub, psV, go_sem]
    refine callK_fn e18 (.still rfl) ?_
    simp -implicitDefEqProofs only [h, go_sem]
end Go.Proofs.YtaphjgjhpmmkmaaGreat
end

section
namespace Go.Proofs.YtaphjgjhpmmkmaaGreat
open Go Go.AM
set_option maxRecDepth 100000
set_option linter.unusedSimpArgs false

theorem IsPar.tbl {q : Int} {P : List (List UInt8)} {N E : List (List Int)} (h : IsPar q P N E) : Tbl q.toNat N E ∧ 0 < N.length := by
  have hf := h.facts
  obtain ⟨h1, h2, h3, h4, h5⟩ := h
  have hv := valid_of h1
  have hq2 := hv.q2
  have hNr := (nxP_len hv).2
  have hEr := (emP_len hv).2
  have hnl : 0 < N.length := by
    rw [← hf.2.2.1, ← h3]
    have hp := hv.pos
    have : ([] : List UInt8) ∈ prefs (codeP P E) := mem_prefs.2 ⟨_, List.getElem_mem hp, List.nil_prefix, List.length_pos_iff.2 (hv.words _ (List.getElem_mem hp)).1⟩
    exact List.length_pos_of_mem this
  refine ⟨⟨by omega, fun l hl => hNr l (by rw [h4]; exact hl), fun l hl => hEr l (by rw [h5]; exact hl), fun l hl x hx => ?_⟩, hnl⟩
  rw [← h4] at hl
  obtain ⟨y, _, rfl⟩ := List.mem_map.1 hl
  unfold nxL at hx
  obtain ⟨a, _, rfl⟩ := List.mem_map.1 hx
  unfold nextN
  split
  · omega
  · rw [h3]
    have := ixW_lt P (stepW y a)
    omega

def posE (q : Int) (P : List (List UInt8)) (N E : List (List Int)) (w : List UInt8) : Int := if parCheck q P N E = 0 then wordCheck q w else 1

end Go.Proofs.YtaphjgjhpmmkmaaGreat
end

section
namespace Go.Proofs.YtaphjgjhpmmkmaaGreat
open Go Go.AM
set_option maxRecDepth 100000
set_option linter.unusedSimpArgs false

def outs (d : List (Int × Nat)) : List Int := (d.map (·.1)).filter fun e => decide (0 ≤ e)
theorem outs_yes {d : List (Int × Nat)} {e : Int} (n : Nat) (h : 0 ≤ e) : outs (d ++ [(e, n)]) = outs d ++ [e] := by unfold outs; simp [h]
theorem outs_no {d : List (Int × Nat)} {e : Int} (n : Nat) (h : ¬ 0 ≤ e) : outs (d ++ [(e, n)]) = outs d := by unfold outs; simp [h]
theorem outs_len (d : List (Int × Nat)) : (outs d).length ≤ d.length := by
  unfold outs
  refine Nat.le_trans (List.length_filter_le _ _) (by simp)

def runE' (q : Int) (P : List (List UInt8)) (N E : List (List Int)) (s : Int) (w : List UInt8) : Int :=
  if posE q P N E w = 0 then (if s < 0 ∨ (P.length : Int) ≤ s then 25 else if (trail N E s.toNat w).length < w.length then 13 else 0) else posE q P N E w
def runL (q : Int) (P : List (List UInt8)) (N E : List (List Int)) (s : Int) (w : List UInt8) : List Int := if runE' q P N E s w = 0 then outs (trail N E s.toNat w) else []
def runS (q : Int) (P : List (List UInt8)) (N E : List (List Int)) (s : Int) (w : List UInt8) : Int := if runE' q P N E s w = 0 then (endS s.toNat (trail N E s.toNat w) : Nat) else 0

theorem pos_facts {q : Int} {P : List (List UInt8)} {N E : List (List Int)} {w : List UInt8} (h : posE q P N E w = 0) : IsPar q P N E ∧ okW q w = true ∧ w.length ≤ 65536 := by
  have hI : IsPar q P N E := by
    unfold posE parCheck at h
    by_cases hI : IsPar q P N E
    · exact hI
    · rw [if_neg hI, if_neg (by decide)] at h; cases h
  have hwc : wordCheck q w = 0 := by
    unfold posE parCheck at h
    rw [if_pos hI, if_pos rfl] at h; exact h
  have hf := hI.facts
  refine ⟨hI, ?_⟩
  unfold wordCheck at hwc
  rw [if_neg (by omega)] at hwc
  split at hwc
  · cases hwc
  · split at hwc
    · rename_i h; exact ⟨h, by omega⟩
    · cases hwc

def rnH (qn : Nat) (P : List (List UInt8)) (N E : List (List Int)) (w : List UInt8) (sn : Nat) (rec : AObj) (d : List (Int × Nat)) : List AObj :=
  [psB qn P N E, .box [.p (.int .i64 (endS sn d : Nat))], .box [.own 3 (outs d).length], .row 3 1 ((outs d).map (.int .i64)) (pk (outs d)), .box [.p (.int .i64 (d.length : Nat))], psB qn P N E, .box [.p (.int .i64 (endS sn d : Nat))], .box [.p (.str w)], rec]

theorem p29 (q : Int) (P : List (List UInt8)) (N E : List (List Int)) (s : Int) (w : List UInt8) (hP : P.length ≤ 64) (hPs : ∀ x ∈ P, x.length ≤ 1000) :
    PFn Tryz.prog 23 [psV q P N E, .int .i64 s, .str w] [slI (runL q P N E s w), .int .i64 (runS q P N E s w), .int .i64 (runE' q P N E s w)] := by
  have e63 := p63 q P N E w hP hPs
  change PFn Tryz.prog 47 _ [.int .i64 (posE q P N E w)] at e63
  by_cases h : posE q P N E w = 0
  rotate_left
  · have e0 : runE' q P N E s w = posE q P N E w := by unfold runE'; rw [if_neg h]
    have e1 : runL q P N E s w = [] := by unfold runL; rw [e0, if_neg h]
    have e2 : runS q P N E s w = 0 := by unfold runS; rw [e0, if_neg h]
    rw [e0, e1, e2]
    generalize posE q P N E w = ee at *
    refine PFn.of_body hΓ Tryz.func23 (by kernel_rfl) rfl (AWp.of_awpD [(16, 5)] hΓ hmix (by kernel_rfl) ?_)
    simp -implicitDefEqProofs only [Tryz.ntmps23, Tryz.results23, Nat.reduceAdd, Nat.reduceSub, psV, go_sem]
    unfold psV at e63
    refine callK_fn e63 (.still rfl) ?_
    simp -implicitDefEqProofs only [h, slI, List.map_nil, go_sem]
  obtain ⟨hI, hokw, hwl⟩ := pos_facts h
  obtain ⟨hT, hN0⟩ := hI.tbl
  have hf := hI.facts
  rw [h] at e63
  by_cases hs : s < 0 ∨ (P.length : Int) ≤ s
  · have e0 : runE' q P N E s w = 25 := by unfold runE'; rw [if_pos h, if_pos hs]
    have e1 : runL q P N E s w = [] := by unfold runL; rw [e0, if_neg (by decide)]
    have e2 : runS q P N E s w = 0 := by unfold runS; rw [e0, if_neg (by decide)]
    rw [e0, e1, e2]
    unfold psV at e63
    refine PFn.of_body hΓ Tryz.func23 (by kernel_rfl) rfl (AWp.of_awpD [(16, 5)] hΓ hmix (by kernel_rfl) ?_)
    by_cases hs1 : s < 0
    · simp -implicitDefEqProofs only [Tryz.ntmps23, Tryz.results23, Nat.reduceAdd, Nat.reduceSub, psV, go_sem]
      refine callK_fn e63 (.still rfl) ?_
      simp -implicitDefEqProofs only [hs1, slI, List.map_nil, go_sem]
    · have hs2 : (P.length : Int) ≤ s := hs.resolve_left hs1
      simp -implicitDefEqProofs only [Tryz.ntmps23, Tryz.results23, Nat.reduceAdd, Nat.reduceSub, psV, go_sem]
      refine callK_fn e63 (.still rfl) ?_
      simp -implicitDefEqProofs only [hs1, hs2, slI, List.map_nil, List.length_map, go_sem]
  have hs1 : ¬ s < 0 := fun e => hs (.inl e)
  have hs2 : ¬ (P.length : Int) ≤ s := fun e => hs (.inr e)
  obtain ⟨sn, rfl⟩ := Int.eq_ofNat_of_zero_le (show 0 ≤ s by omega)
  obtain ⟨qn, rfl⟩ := Int.eq_ofNat_of_zero_le (show 0 ≤ q by omega)
  rw [Int.toNat_natCast] at hT
  have hsN : sn < N.length := by have := hf.2.2.1; omega
  have e0 : runE' qn P N E sn w = if (trail N E sn w).length < w.length then 13 else 0 := by unfold runE'; rw [if_pos h, if_neg hs, Int.toNat_natCast]
  unfold runL runS
  rw [e0, Int.toNat_natCast]
  refine PFn.of_body hΓ Tryz.func23 (by kernel_rfl) rfl (AWp.seq (AWp.of_awpD [] hΓ hmix (by kernel_rfl) ?_))
  simp -implicitDefEqProofs only [Tryz.ntmps23, Tryz.results23, Nat.reduceAdd, Nat.reduceSub, psV, go_sem]
  refine AWp.seq (AWp.of_awpD [] hΓ hmix (by kernel_rfl) ?_)
  simp -implicitDefEqProofs only [go_sem]
  unfold psV at e63
  refine callK_fn e63 (.still rfl) ?_
  simp -implicitDefEqProofs only [go_sem]
  refine AWp.seq (AWp.seq (AWp.of_awpD [] hΓ hmix (by kernel_rfl) ?_))
  simp -implicitDefEqProofs only [hs1, hs2, List.length_map, go_sem]
  refine AWp.of_awpD [] hΓ hmix (by kernel_rfl) ?_
  simp -implicitDefEqProofs only [go_sem]
  refine AWp.seq (AWp.of_awpD [] hΓ hmix (by kernel_rfl) ?_)
  simp -implicitDefEqProofs only [go_sem]
  refine AWp.adoptCell (l := []) 2 0 3 1 rfl rfl (by simp) ?_
  simp -implicitDefEqProofs only [List.set_cons_zero, List.set_cons_succ, go_sem]
  refine AWp.seq (AWp.of_awpD [] hΓ hmix (by kernel_rfl) ?_)
  simp -implicitDefEqProofs only [go_sem]
  refine AWp.seq (AWp.seq (AWp.of_awpD [] hΓ hmix (by kernel_rfl) ?_))
  simp -implicitDefEqProofs only [go_sem]
  refine callK_ac (c64 qn P N E sn w) (by simp) ?_
  rintro v h' ⟨rfl, rfl⟩
  simp -implicitDefEqProofs only [killAll, List.foldl, psB, go_sem]
  refine AWp.block ?_
  refine AWp.weak (st' := ⟨mkF 50 [(2, .p (.str w)), (3, .ptr 0 0), (4, .ptr 1 0), (10, .ptr 2 0), (11, .ptr 4 0), (32, .fn 80 [.ptr 7 0, .ptr 5 0, .ptr 6 0])], [psB qn P N E, .box [.p (.int .i64 (sn : Nat))], .box [.own 3 0], .row 3 1 [] .lax, .box [.p (.int .i64 (0 : Nat))], psB qn P N E, .box [.p (.int .i64 (sn : Nat))], .box [.p (.str w)]]⟩) (by simp [go_sem, psB]) ?_
  rw [show (#[33, 34] : Array Nat) = [33, 34].toArray from rfl]
  refine AWp.rangeFunc (ks := [3]) (R := fun _ h' => h' = rnH qn P N E w sn (.lp _ _ _ _ _) (trail N E sn w)) rfl
    (c87 (by simp) (by simp) (by simp) (by simp) qn P N E hT sn hsN w hokw (by omega) (rnH qn P N E w sn (.lp _ _ _ _ _)) (fun d => by simp [rnH]) (fun d => rfl) (fun d => rfl) (fun d => rfl) ?_) (by simp) (by simp) ?_
  · intro d e n hd
    have hdl : d.length < (trail N E sn w).length := by
      obtain ⟨l, hl⟩ := hd
      rw [← hl]; simp
    have htl := trail_len N E w sn
    have hol := outs_len d
    unfold rnH
    simp -implicitDefEqProofs only [List.set_cons_zero, List.set_cons_succ, go_sem]
    refine YC.of_body (Γ := Γ) rfl rfl (by simp) ?_
    intro rr
    refine AWp.of_awpD [] hΓ hmix (by kernel_rfl) ?_
    simp -implicitDefEqProofs only [setP, go_sem]
    unfold BeginE
    refine ⟨rfl, ?_⟩
    simp -implicitDefEqProofs only [go_sem]
    refine AWp.of_awpD [] hΓ hmix (by kernel_rfl) ?_
    by_cases hp : 0 ≤ e
    · simp -implicitDefEqProofs only [hp, go_sem]
      have hs1 : sizeOK [PV.int .i64 e] 1 := by simp [sizeOK, PV.cells]
      have ho1 : oneOK [PV.int .i64 e] := by simp [oneOK, PV.cells, PV.isAgg]
      refine ⟨⟨hs1, by omega⟩, ⟨hs1, ho1⟩, ⟨pk_raw _, .inr (by simp), by omega, by omega⟩, by simp only [InR]; omega, ?_⟩
      unfold RoundE
      simp -implicitDefEqProofs only [killAll, List.foldl, AObj.kill, AV.kill, AV.kill.killL, go_sem]
      refine ⟨_, ?_, .inl rfl, ?_⟩
      rotate_left
      · rw [List.take_length]
        rw [outs_yes n hp, endS_snoc, pk_snoc]
        simp [psB, AV.kill]
      · simp
    · simp -implicitDefEqProofs only [hp, go_sem]
      refine ⟨by simp only [InR]; omega, ?_⟩
      unfold RoundE
      simp -implicitDefEqProofs only [go_sem]
      refine ⟨_, ?_, .inl rfl, ?_⟩
      rotate_left
      · rw [List.take_length]
        rw [outs_no n hp, endS_snoc]
        simp
      · simp
  · rintro v h' rfl
    unfold RangeK rnH
    simp -implicitDefEqProofs only [killAll, List.foldl, go_sem]
    refine AWp.freeze 3 rfl ?_
    simp -implicitDefEqProofs only [Frozen, AV.thaw, AObj.thaw, AV.thaw.thawL, List.map_cons, List.map_nil, List.set_cons_zero, List.set_cons_succ, go_sem]
    have htl := trail_len N E w sn
    refine AWp.of_awpD [(16, 5)] hΓ hmix (by kernel_rfl) ?_
    by_cases hfin : (trail N E sn w).length < w.length
    · have hfin' : ((trail N E sn w).length : Int) < w.length := by omega
      rw [if_pos hfin]
      simp -implicitDefEqProofs only [hfin, hfin', slI, go_sem]
      exact ⟨rfl, rfl⟩
    · rw [if_neg hfin]
      simp -implicitDefEqProofs only [hfin, slI, go_sem]
end Go.Proofs.YtaphjgjhpmmkmaaGreat
end

section
namespace Go.Proofs.YtaphjgjhpmmkmaaGreat
open Go Go.AM
set_option maxRecDepth 100000
set_option linter.unusedSimpArgs false

theorem word_ok {q : Int} {w : List UInt8} (hw : wordCheck q w = 0) : okW q w = true ∧ w.length ≤ 65536 := by
  unfold wordCheck at hw
  split at hw
  · cases hw
  · split at hw
    · cases hw
    · split at hw
      · rename_i h; exact ⟨h, by omega⟩
      · cases hw
theorem split_last {q : Int} {ws : List (List UInt8)} (hv : Valid q ws) {w : List UInt8} (hw : w ∈ ws) : ∃ (x : List UInt8) (a : Nat), x ∈ prefs ws ∧ (a : Int) < q ∧ w = stepW x a := by
  obtain ⟨hne, _, hwc⟩ := hv.words w hw
  obtain ⟨h1, _⟩ := word_ok hwc
  have hd := dig_of h1 (w.getLast hne) (List.getLast_mem hne)
  refine ⟨w.dropLast, digN (w.getLast hne), mem_prefs.2 ⟨w, hw, List.dropLast_prefix w, by rw [List.length_dropLast]; have := List.length_pos_iff.2 hne; omega⟩, by unfold digN; omega, ?_⟩
  obtain ⟨k, h2, h3⟩ := ixB_hit (w.getLast hne) L16 0 hd.1
  unfold stepW digN
  rw [h2, show ((0 + k : Nat) : Int).toNat = k by omega, h3, List.dropLast_concat_getLast]

theorem codeP_par {q : Int} {ws : List (List UInt8)} (hv : Valid q ws) : codeP (prefs ws) (emP q ws) = ws := by
  have hq16 := hv.q16
  unfold codeP
  rw [emP_length, Nat.min_self]
  refine made_of hv.strict fun x => ?_
  have key : ∀ s (hs : s < (prefs ws).length), (emP q ws).getD s [] = emL q.toNat ws (prefs ws)[s] := fun s hs => by
    unfold emP
    simp [List.getD_eq_getElem?_getD, hs]
  unfold emW
  constructor
  · intro hx
    obtain ⟨s, hs, hx⟩ := List.mem_flatMap.1 hx
    have hs' := List.mem_range.1 hs
    obtain ⟨a, ha, rfl, hge⟩ := rowW_all x hx
    rw [key s hs'] at hge ha
    rw [List.getD_eq_getElem?_getD, List.getElem?_eq_getElem hs', Option.getD_some]
    have hlen : (emL q.toNat ws (prefs ws)[s]).length = q.toNat := by simp [emL]
    have haq : a < q.toNat := by omega
    have : (emL q.toNat ws (prefs ws)[s]).getD a 0 = ixW ws (stepW (prefs ws)[s] a) := by
      unfold emL; simp [List.getD_eq_getElem?_getD, haq]
    rw [this] at hge
    exact ixW_ge.1 hge
  · intro hx
    obtain ⟨y, a, hy, ha, rfl⟩ := split_last hv hx
    obtain ⟨s, hs, rfl⟩ := List.getElem_of_mem hy
    refine List.mem_flatMap.2 ⟨s, List.mem_range.2 hs, ?_⟩
    rw [key s hs, List.getD_eq_getElem?_getD, List.getElem?_eq_getElem hs, Option.getD_some]
    unfold rowW
    have hlen : (emL q.toNat ws (prefs ws)[s]).length = q.toNat := by simp [emL]
    have haq : a < q.toNat := by omega
    refine List.mem_map.2 ⟨a, List.mem_filter.2 ⟨List.mem_range.2 (by omega), ?_⟩, rfl⟩
    have : (emL q.toNat ws (prefs ws)[s]).getD a 0 = ixW ws (stepW (prefs ws)[s] a) := by
      unfold emL; simp [List.getD_eq_getElem?_getD, haq]
    rw [this]
    exact decide_eq_true (ixW_ge.2 hx)

theorem isPar_of {q : Int} {ws : List (List UInt8)} (hc : codeCheck q ws = 0) (hp : preB ws = true) : IsPar q (prefs ws) (nxP q ws) (emP q ws) := by
  have h := codeP_par (valid_of hc)
  unfold IsPar
  rw [h]
  exact ⟨hc, hp, rfl, rfl, rfl⟩

/-! ### The examples -/
end Go.Proofs.YtaphjgjhpmmkmaaGreat
end

