/-
  The program's residuals.
  The law DecodableChecks.
  Contains; decodable, Decodable and Residuals of the program.
  Plain law of certificates: an accepted proof keeps the empty word away; an accepted ambiguity brings it; a proof remains one with a further word from which nothing follows.
  slices.Clone of a list of words.
  The law DecodableCertificates.
  What a parameter that fits a shape is: codes, ambiguities, lists of words and numbers.
-/
import Derived.Test.YtpancbdaigaheaaJpdecodablecertificates
import Derived.Test.YtpancbdaigaheaaJkdecodablecertificates
import Derived.Test.YtpancbdaigaheaaJldecodablecertificates

section
namespace Go.Proofs.Ytpancbdaigaheaa
open Go Go.AM
set_option maxRecDepth 100000
set_option linter.unusedSimpArgs false

theorem pairsN_len (ws : List (List UInt8)) : ∀ n, (pairsN ws n).length ≤ n * ws.length
  | 0 => by simp [pairsN]
  | n + 1 => by
    have h1 : ∀ l : List (List UInt8), ∀ x, (l.flatMap (pairAt x)).length ≤ l.length := fun l x => by
      induction l with
      | nil => simp
      | cons y l ih =>
        have : (pairAt x y).length ≤ 1 := by unfold pairAt; split <;> simp
        simp only [List.flatMap_cons, List.length_append, List.length_cons]; omega
    have h2 := h1 (ws.take ws.length) (ws.getD n [])
    rw [List.take_length] at h2
    have h3 := pairsN_len ws n
    rw [pairsN_succ, List.length_append, Nat.succ_mul]
    unfold pairsK
    rw [List.take_length]; omega

/-- What is known of the row's kind. -/
def RKok (done : List (List UInt8)) (rk : RK) : Prop := rk ≠ .raw ∧ (done ≠ [] → rk = .own)

theorem heapR_len (q : Int) (ws done : List (List UInt8)) (rk : RK) (T : List AObj) : (heapR q ws done rk T).length = T.length + 7 := by simp [heapR]
theorem heapR_snoc (q : Int) (ws done : List (List UInt8)) (rk : RK) (T : List AObj) (o : AObj) : heapR q ws done rk T ++ [o] = heapR q ws done rk (T ++ [o]) := by simp [heapR]

/-- The loop over firsts whose rounds add the rest. -/
theorem add86 {E : Env} (hP : E.P = Try.prog) (hn : E.n0 = 0) {tm : List AV} {Q : Exit → St → Prop} {f : Operand} {ps : List Nat} {assign body : Code} (q : Int) (ws : List (List UInt8)) (hws : ws.length ≤ 64)
    (hf : ev tm f = .fn 86 [.ptr 5 0]) (htm : killAll [6] tm = tm)
    (hround : ∀ done rk y r, RKok done rk → done.length ≤ 5000 → YC Try.prog 7 [.p (.str y), .p (.str r)] (heapR q ws done rk [.lp tm ps assign body .ready]) [6]
      (fun v h'' => v = .p (.bool true) ∧ ∃ rk', RKok (done ++ [r]) rk' ∧ h'' = heapR q ws (done ++ [r]) rk' [.lp tm ps assign body .ready]))
    (h1 : ∀ rk, RKok ((pairs ws).map (·.2)) rk → Q .normal ⟨tm, heapR q ws ((pairs ws).map (·.2)) rk [.dead]⟩) : AWp E none (.rangeFunc f ps.toArray assign body) Q ⟨tm, heapR q ws [] .lax []⟩ := by
  have hlen : (pairs ws).length ≤ 4096 := by
    have h1 := pairsN_len ws ws.length
    have h2 : ws.length * ws.length ≤ 64 * 64 := Nat.mul_le_mul hws hws
    unfold pairs; omega
  have hac : AC Try.prog 86 [.yld 7, .ptr 5 0] (heapR q ws [] .lax [.lp tm ps assign body .ready]) [6]
      (fun _ h' => (∃ rk, RKok ((pairs ws).map (·.2)) rk ∧ h' = heapR q ws ((pairs ws).map (·.2)) rk [.lp tm ps assign body .ready]) ∨ False) := by
    refine c86 (b := 7) (c := 5) (ks := [6]) (by simp) (by simp) q ws (by omega) (J := fun done h' => ∃ rk, RKok (done.map (·.2)) rk ∧ h' = heapR q ws (done.map (·.2)) rk [.lp tm ps assign body .ready]) (D := fun _ => False) ⟨.lax, ⟨by simp, fun h => absurd rfl h⟩, rfl⟩ ?_ ?_ ?_
    · rintro done h' ⟨rk, _, rfl⟩
      exact ⟨rfl, by rw [heapR_len, heapR_len]; exact Nat.le_refl _⟩
    · intro h' h; exact h.elim
    · rintro done y r h' ⟨l, hl⟩ ⟨rk, hrk, rfl⟩
      have hd : done.length ≤ 4096 := by
        have := congrArg List.length hl
        simp only [List.length_append, List.length_cons] at this; omega
      have hy := hround (done.map (·.2)) rk y r hrk (by rw [List.length_map]; omega)
      intro X I μ ob w cargs R hl2 ha hk
      obtain ⟨l', fn, tmps, a', b', e1, e2, e3⟩ := hy X I μ ob w cargs R hl2 ha hk
      refine ⟨l', fn, tmps, a', b', e1, e2, ?_⟩
      refine e3.mono ?_
      rintro e w' ⟨cv, v, h', I', μ', ob', g1, g2, g3, g4, g5, g6, g7, g8, g9, k1, rk', k2, k3⟩
      exact ⟨cv, v, h', I', μ', ob', g1, g2, g3, g4, g5, g6, g7, g8, g9, .inl ⟨k1, rk', by rw [List.map_append]; exact k2, by rw [List.map_append]; exact k3⟩⟩
  obtain ⟨P, Γ', n0, ks⟩ := E
  simp only at hP hn; subst hP hn
  refine AWp.rangeFunc (h := heapR q ws [] .lax []) (ks := [6]) hf (by rw [heapR_snoc]; exact hac) (fun k _ => .inl (Nat.zero_le k)) (by rw [heapR_len]; simp) ?_
  rintro v h' (⟨rk, hrk, rfl⟩ | h)
  · have := h1 rk hrk
    unfold RangeK
    rw [htm]
    exact this
  · exact h.elim

theorem foldK_prefix : ∀ (l acc : List (List UInt8)), acc <+: l.foldl addK acc
  | [], acc => List.prefix_refl _
  | a :: l, acc => by
    rw [List.foldl_cons]
    refine List.IsPrefix.trans ?_ (foldK_prefix l _)
    unfold addK
    split
    · exact List.prefix_refl _
    · exact List.prefix_append _ _
theorem keysOf_prefix (done l : List (List UInt8)) : keysOf done <+: keysOf (done ++ l) := by unfold keysOf; rw [List.foldl_append]; exact foldK_prefix l _
theorem keysOf_getD {done l : List (List UInt8)} {j : Nat} (hj : j < (keysOf done).length) : (keysOf (done ++ l)).getD j [] = (keysOf done).getD j [] := by
  obtain ⟨t, ht⟩ := keysOf_prefix done l
  rw [← ht]
  simp only [List.getD_eq_getElem?_getD, List.getElem?_append_left hj]

theorem nodup_sub_lenW : ∀ {l m : List (List UInt8)}, l.Nodup → l ⊆ m → l.length ≤ m.length
  | [], _, _, _ => Nat.zero_le _
  | a :: l, m, h, hs => by
    obtain ⟨h1, h2⟩ := List.nodup_cons.1 h
    have ha : a ∈ m := hs (by simp)
    have := nodup_sub_lenW (m := m.erase a) h2 (fun x hx => (List.mem_erase_of_ne (fun e : x = a => h1 (e ▸ hx))).2 (hs (by simp [hx])))
    rw [List.length_erase_of_mem ha] at this
    have := List.length_pos_of_mem ha
    simp only [List.length_cons]; omega

/-- How the second loop of residuals stands. -/
structure Inv2 (ws : List (List UInt8)) (i : Nat) (done : List (List UInt8)) (rk : RK) : Prop where
  ok : RKok done rk
  sound : ∀ x ∈ done, Reach ws x
  firsts : ∀ u ∈ firstS ws, u ∈ done
  le : i ≤ (keysOf done).length
  nexts : ∀ j, j < i → (keysOf done).getD j [] ≠ [] → ∀ u ∈ nextS ws ((keysOf done).getD j []), u ∈ done

theorem Inv2.keys_len {ws : List (List UInt8)} {i : Nat} {done : List (List UInt8)} {rk : RK} (h : Inv2 ws i done rk) : (keysOf done).length ≤ (sufs ws).length := by
  have h1 : keysOf done ⊆ sufs ws := fun x hx => mem_sufs (reach_suffix (h.sound x ((mem_keysOf _ _).1 hx)))
  exact nodup_sub_lenW (keysOf_nodup done) h1

theorem distinct_idx {q : Int} {ws : List (List UInt8)} (hv : Valid q ws) : ∀ i j, i < ws.length → j < ws.length → ws.getD i [] = ws.getD j [] → i = j := by
  intro i j hi hj e
  rcases Nat.lt_trichotomy i j with h1 | h1 | h1
  · exact absurd (e ▸ hv.lt i j h1 hj) (ltW_irrefl _)
  · exact h1
  · exact absurd (e ▸ hv.lt j i h1 hi) (ltW_irrefl _)

theorem nextS_eq (ws : List (List UInt8)) (r : List UInt8) : nextS ws r = (nextsP ws r).map (·.1) := by
  unfold nextS nextsP
  rw [List.map_flatMap]
  congr 1; funext x
  unfold nextAt nextP
  split
  · rfl
  · split <;> rfl

theorem nextsP_len (ws : List (List UInt8)) (r : List UInt8) : (nextsP ws r).length ≤ ws.length := by
  induction ws with
  | nil => simp [nextsP]
  | cons x ws ih =>
    have h : (nextP r x).length ≤ 1 := by unfold nextP; split; simp; split <;> simp
    unfold nextsP at ih ⊢
    simp only [List.flatMap_cons, List.length_append, List.length_cons]; omega

/-- The loop over nexts whose rounds add what follows. -/
theorem add87 {E : Env} (hP : E.P = Try.prog) (hn : E.n0 = 0) {tm : List AV} {Q : Exit → St → Prop} {f : Operand} {ps : List Nat} {assign body : Code} (q : Int) (ws : List (List UInt8)) (hws : ws.length ≤ 64) (x : List UInt8) (done0 : List (List UInt8)) (rk0 : RK) (hrk0 : RKok done0 rk0) (T : List AObj) {c d : Nat}
    (hf : ev tm f = .fn 87 [.ptr (c + 7) 0, .ptr (d + 7) 0]) (hc : T[c]? = some (codeB q ws)) (hd : T[d]? = some (.box [.p (.str x)])) (htm : killAll [6] tm = tm) (hd0 : (keysOf done0).length ≤ 100000)
    (hround : ∀ done rk u n, RKok done rk → (keysOf done).length ≤ 1000000 → YC Try.prog (T.length + 7) [.p (.str u), .p (.int .i64 (n : Nat))] (heapR q ws done rk (T ++ [.lp tm ps assign body .ready])) [6]
      (fun v h'' => v = .p (.bool true) ∧ ∃ rk', RKok (done ++ [u]) rk' ∧ h'' = heapR q ws (done ++ [u]) rk' (T ++ [.lp tm ps assign body .ready])))
    (h1 : ∀ rk, RKok (done0 ++ (nextsP ws x).map (·.1)) rk → Q .normal ⟨tm, heapR q ws (done0 ++ (nextsP ws x).map (·.1)) rk (T ++ [.dead])⟩) : AWp E none (.rangeFunc f ps.toArray assign body) Q ⟨tm, heapR q ws done0 rk0 T⟩ := by
  have hcl : c < T.length := (List.getElem?_eq_some_iff.1 hc).1
  have hdl : d < T.length := (List.getElem?_eq_some_iff.1 hd).1
  have look : ∀ done rk o k v, T[k]? = some v → (heapR q ws done rk (T ++ [o]))[k + 7]? = some v := fun done rk o k v hk => by
    show (T ++ [o])[k]? = some v
    rw [List.getElem?_append_left (List.getElem?_eq_some_iff.1 hk).1]; exact hk
  have grow : ∀ l : List (List UInt8), (keysOf (done0 ++ l)).length ≤ (keysOf done0).length + l.length := fun l => by
    unfold keysOf; rw [List.foldl_append]; exact len_foldK l _
  have hac : AC Try.prog 87 [.yld (T.length + 7), .ptr (c + 7) 0, .ptr (d + 7) 0] (heapR q ws done0 rk0 (T ++ [.lp tm ps assign body .ready])) [6]
      (fun _ h' => (∃ rk, RKok (done0 ++ (nextsP ws x).map (·.1)) rk ∧ h' = heapR q ws (done0 ++ (nextsP ws x).map (·.1)) rk (T ++ [.lp tm ps assign body .ready])) ∨ False) := by
    refine c87 (h := heapR q ws done0 rk0 (T ++ [.lp tm ps assign body .ready])) (b := T.length + 7) (c := c + 7) (d := d + 7) (ks := [6]) (by simp) (by simp) (by simp) q ws x (by omega) (J := fun done h' => ∃ rk, RKok (done0 ++ done.map (·.1)) rk ∧ h' = heapR q ws (done0 ++ done.map (·.1)) rk (T ++ [.lp tm ps assign body .ready])) (D := fun _ => False) ⟨rk0, by simpa using hrk0, by simp⟩ ?_ ?_ ?_
    · rintro done h' ⟨rk, _, rfl⟩
      exact ⟨look _ _ _ _ _ hc, look _ _ _ _ _ hd, by rw [heapR_len, heapR_len]; exact Nat.le_refl _⟩
    · intro h' h; exact h.elim
    · rintro done u n h' ⟨l, hl⟩ ⟨rk, hrk, rfl⟩
      have hdn : done.length ≤ 64 := by
        have := congrArg List.length hl
        have h2 := nextsP_len ws x
        simp only [List.length_append, List.length_cons] at this; omega
      have hg := grow (done.map (·.1))
      rw [List.length_map] at hg
      have hy := hround (done0 ++ done.map (·.1)) rk u n hrk (by omega)
      intro X I μ ob w cargs R hl2 ha hk
      obtain ⟨l', fn, tmps, a', b', e1, e2, e3⟩ := hy X I μ ob w cargs R hl2 ha hk
      refine ⟨l', fn, tmps, a', b', e1, e2, ?_⟩
      refine e3.mono ?_
      rintro e w' ⟨cv, v, h', I', μ', ob', g1, g2, g3, g4, g5, g6, g7, g8, g9, k1, rk', k2, k3⟩
      exact ⟨cv, v, h', I', μ', ob', g1, g2, g3, g4, g5, g6, g7, g8, g9, .inl ⟨k1, rk', by rw [List.map_append, ← List.append_assoc]; exact k2, by rw [List.map_append, ← List.append_assoc]; exact k3⟩⟩
  obtain ⟨P, Γ', n0, ks⟩ := E
  simp only at hP hn; subst hP hn
  refine AWp.rangeFunc (h := heapR q ws done0 rk0 T) (ks := [6]) hf (by rw [heapR_snoc, heapR_len]; exact hac) (fun k _ => .inl (Nat.zero_le k)) (by rw [heapR_len]; simp) ?_
  rintro v h' (⟨rk, hrk, rfl⟩ | h)
  · have := h1 rk hrk
    unfold RangeK
    rw [htm, heapR_len]
    have e1 : (heapR q ws (done0 ++ (nextsP ws x).map (·.1)) rk (T ++ [.lp tm ps assign body .ready]))[T.length + 7]? = some (.lp tm ps assign body .ready) := by
      show (T ++ [_])[T.length]? = _
      simp
    rw [e1]
    have e2 : (heapR q ws (done0 ++ (nextsP ws x).map (·.1)) rk (T ++ [.lp tm ps assign body .ready])).set (T.length + 7) .dead = heapR q ws (done0 ++ (nextsP ws x).map (·.1)) rk (T ++ [.dead]) := by
      simp [heapR]
    simp only [e2]
    exact this
  · exact h.elim

theorem r46 (q : Int) (ws : List (List UInt8)) (hv : Valid q ws) : PRow Try.prog 46 [codeV q ws] 9 1 ((residL ws).map .str) := by
  refine AC.of_bodyE hΓ Try.func46 (by kernel_rfl) rfl (AWp.mono (Q := fun e st => AM.Ends e ∧ ∃ b rk, st.tmps.getD 2 .junk = .own b (residL ws).length ∧ st.h[b]? = some (.row 9 1 ((residL ws).map .str) rk) ∧ rk ≠ .raw) ?_ ?_)
  rotate_left
  · rintro e ⟨tm, h'⟩ ⟨he, b, rk, h1, h2, h3⟩
    simp only at h1 h2
    refine ⟨he, _, Less.refl _, ?_⟩
    unfold DoneE
    simp -implicitDefEqProofs only [Try.results46, h1, go_sem]
    refine ⟨_, by simp, .inl rfl, b, ?_⟩
    rw [List.take_length]
    exact ⟨rk, by simp, h2, h3⟩
  refine AWp.of_awpD [] hΓ hmix (by kernel_rfl) ?_
  simp -implicitDefEqProofs only [Try.ntmps46, Nat.reduceAdd, Nat.reduceSub, codeV, List.map_cons, List.map_nil, go_sem]
  refine callK_ac (c52 q ws) (by simp) ?_
  rintro v h' ⟨rfl, rfl⟩
  simp -implicitDefEqProofs only [killAll, List.foldl, codeB, List.cons_append, List.nil_append, go_sem]
  refine AWp.adoptBox (l := []) 3 9 1 rfl (by simp) ?_
  simp -implicitDefEqProofs only [List.set_cons_zero, List.set_cons_succ, List.length_cons, List.length_nil, List.cons_append, List.nil_append, Nat.reduceAdd, go_sem]
  refine add86 rfl rfl q ws hv.len rfl (by simp [killAll, AV.kill, AV.kill.killL]) ?_ ?_
  · intro done rk y r hrk hdl
    refine YC.of_body (Γ := Γ) rfl rfl (by simp) ?_
    intro rr
    refine AWp.of_awpD [] hΓ hmix (by kernel_rfl) ?_
    unfold heapR
    simp +contextual -implicitDefEqProofs only [setP, List.cons_append, List.nil_append, go_sem]
    unfold BeginE
    refine ⟨rfl, ?_⟩
    simp +contextual -implicitDefEqProofs only [List.length_cons, List.length_nil, List.cons_append, List.nil_append, codeB, go_sem]
    refine AWp.of_awpD [] hΓ hmix (by kernel_rfl) ?_
    simp -implicitDefEqProofs only [go_sem]
    have hkl := keysOf_len done
    refine callK_ac (c82 q ws done rk _ r hrk (by simp [AObj.kill, AV.kill, AV.kill.killL]) (by omega)) (by simp) ?_
    rintro v h' ⟨rfl, rk', hrk', rfl⟩
    unfold heapR
    simp -implicitDefEqProofs only [killAll, List.foldl, codeB, go_sem]
    exact ⟨8, by simp, .inl rfl, rfl, rk', hrk', rfl⟩
  · intro rk hrk
    unfold heapR
    simp -implicitDefEqProofs only [codeB, go_sem]
    refine AWp.loopI (fun p : Nat × List (List UInt8) × RK × Nat => ⟨mkF 44 [(1, .ptr 0 0), (3, .ptr 2 0), (4, .ptr 3 0), (5, .ptr 4 0), (8, .p (.int .i64 p.1))], heapR q ws p.2.1 p.2.2.1 (List.replicate p.2.2.2 .dead)⟩)
      (fun p => Inv2 ws p.1 p.2.1 p.2.2.1) (fun p => (sufs ws).length - p.1) (0, (pairs ws).map (·.2), rk, 1) (by simp [go_sem, heapR, codeB]) ?_ ?_
    · have hd := distinct_idx hv
      have hf : ∀ u, u ∈ (pairs ws).map (·.2) ↔ u ∈ firstS ws := fun u => by
        constructor
        · intro hu
          obtain ⟨p, hp, rfl⟩ := List.mem_map.1 hu
          exact (pairs_first hd (firstS ws)).2 (fun _ h => h) p hp
        · intro hu
          exact (pairs_first hd ((pairs ws).map (·.2))).1 (fun p hp => List.mem_map.2 ⟨p, hp, rfl⟩) u hu
      exact ⟨hrk, fun x hx => .first x ((hf x).1 hx), fun u hu => (hf u).2 hu, Nat.zero_le _, fun j hj => absurd hj (Nat.not_lt_zero j)⟩
    rintro ⟨i, done, rk, m⟩ hI
    simp only at hI
    generalize hTT : List.replicate m AObj.dead = T
    by_cases hlt : i < (keysOf done).length
    · have hdn : done ≠ [] := fun e => by subst e; simp [keysOf] at hlt
      have hown := hI.ok.2 hdn
      subst hown
      refine AWp.of_awpD [(11, 5)] hΓ hmix (by kernel_rfl) ?_
      unfold heapR
      simp -implicitDefEqProofs only [getD_map_lt, hlt, ↓reduceIte, codeB, go_sem]
      have hkey : (keysOf done).getD i [] = (keysOf done)[i] := by rw [List.getD_eq_getElem?_getD, List.getElem?_eq_getElem hlt, Option.getD_some]
      have hk := hI.keys_len
      have hsl := sufs_len (ws := ws) (n := 32) (fun w hw => by
        obtain ⟨j, hj, rfl⟩ := List.getElem_of_mem hw
        have := hv.short j hj
        rwa [List.getD_eq_getElem?_getD, List.getElem?_eq_getElem hj, Option.getD_some] at this)
      have hl3 : ws.length * (32 + 1) ≤ 64 * 33 := Nat.mul_le_mul_right _ hv.len
      refine ⟨fun he => ⟨by simp only [InR]; omega, (i + 1, done, .own, m), ⟨by simp, rfl, rfl, .inl ⟨rfl, rfl⟩, by rw [← hTT]; exact weakH_self _⟩, ⟨hI.ok, hI.sound, hI.firsts, hlt, fun j hj hne => ?_⟩, by simp only; omega⟩, fun hne => ?_⟩
      · by_cases hji : j < i
        · exact hI.nexts j hji hne
        · have : j = i := by omega
          subst this; rw [hkey] at hne; exact absurd he hne
      · refine callK_ac (c53 q ws (keysOf done)[i]) (by simp) ?_
        rintro v h' ⟨rfl, rfl⟩
        simp -implicitDefEqProofs only [killAll, List.foldl, codeB, List.cons_append, List.nil_append, go_sem]
        rw [show (#[36, 37] : Array Nat) = [36, 37].toArray from rfl]
        generalize hT2 : T ++ [AObj.box [.p (.int .i64 q), .p (.sl (ws.map .str))], .box [.p (.str (keysOf done)[i])]] = T2
        have gl : ∀ done rk x, (heapR q ws done rk (T2 ++ [x]))[T2.length + 7]? = some x := fun done rk x => by
          show (T2 ++ [x])[T2.length]? = _
          simp
        have gs : ∀ done rk x y, (heapR q ws done rk (T2 ++ [x])).set (T2.length + 7) y = heapR q ws done rk (T2 ++ [y]) := fun done rk x y => by simp [heapR]
        have f4 : ∀ done rk T, (heapR q ws done rk T)[4]? = some (.box [.fn 82 [.ptr 2 0, .ptr 3 0]]) := fun _ _ _ => rfl
        refine AWp.weak (st' := ⟨mkF 44 [(1, .ptr 0 0), (3, .ptr 2 0), (4, .ptr 3 0), (5, .ptr 4 0), (8, .p (.int .i64 i)), (35, .fn 87 [.ptr (T.length + 7) 0, .ptr (T.length + 1 + 7) 0])], heapR q ws done .own T2⟩) ?_ ?_
        · rw [← hT2]; simp [go_sem, heapR, codeB, weakH_self]
        refine add87 (c := T.length) (d := T.length + 1) rfl rfl q ws hv.len (keysOf done)[i] done .own hI.ok T2 rfl (by rw [← hT2]; simp [codeB]) (by rw [← hT2]; simp) (by simp [go_sem, killAll, AV.kill, AV.kill.killL]) (by omega) ?_ ?_
        · intro done2 rk2 u n hrk2 hk2
          refine YC.of_body (Γ := Γ) (gl _ _ _) rfl (by simp) ?_
          intro rr
          refine AWp.of_awpD [] hΓ hmix (by kernel_rfl) ?_
          simp -implicitDefEqProofs only [setP, go_sem]
          unfold BeginE
          refine ⟨rfl, ?_⟩
          simp only [gl, gs]
          refine AWp.of_awpD [] hΓ hmix (by kernel_rfl) ?_
          simp -implicitDefEqProofs only [f4, go_sem]
          refine callK_ac (c82 q ws done2 rk2 _ u hrk2 (by rw [← hT2, ← hTT]; simp [AObj.kill, AV.kill, AV.kill.killL]) (by omega)) (fun k hk => .inr hk) ?_
          rintro v h' ⟨rfl, rk', hrk', rfl⟩
          simp -implicitDefEqProofs only [killAll, List.foldl, go_sem]
          unfold RoundE
          simp only [gl, gs]
          exact ⟨_, by simp [heapR_len], .inl rfl, trivial, rk', hrk', List.take_length⟩
        · intro rk2 hrk2
          unfold heapR
          simp -implicitDefEqProofs only [codeB, go_sem]
          refine ⟨by simp only [InR]; omega, (i + 1, done ++ (nextsP ws (keysOf done)[i]).map (·.1), rk2, m + 3), ⟨by simp, rfl, rfl, .inl ⟨rfl, rfl⟩, ?_⟩, ?_, by simp only; omega⟩
          · have e3 : List.replicate (m + 3) AObj.dead = List.replicate (T2 ++ [AObj.dead]).length AObj.dead := by rw [← hT2, ← hTT]; simp
            simp only [e3]
            exact weakH_dead _
          · have hN := nextS_eq ws (keysOf done)[i]
            have hkr : Reach ws (keysOf done)[i] := hI.sound _ ((mem_keysOf _ _).1 (List.getElem_mem hlt))
            have hpre := (keysOf_prefix done ((nextsP ws (keysOf done)[i]).map (·.1))).length_le
            refine ⟨hrk2, fun x hx => ?_, fun u hu => List.mem_append.2 (.inl (hI.firsts u hu)), by simp only; omega, fun j hj hne2 u hu => ?_⟩
            · rcases List.mem_append.1 hx with hx | hx
              · exact hI.sound x hx
              · exact .next _ x hkr hne (by rw [hN]; exact hx)
            · rw [keysOf_getD (by omega)] at hne2 hu
              by_cases hji : j < i
              · exact List.mem_append.2 (.inl (hI.nexts j hji hne2 u hu))
              · have : j = i := by omega
                subst this
                rw [hkey, hN] at hu
                exact List.mem_append.2 (.inr hu)
    · refine AWp.of_awpD [(11, 5)] hΓ hmix (by kernel_rfl) ?_
      unfold heapR
      simp -implicitDefEqProofs only [getD_map_lt, hlt, ↓reduceIte, codeB, go_sem]
      have hmem : ∀ x, x ∈ keysOf done ↔ Reach ws x := fun x => by
        rw [mem_keysOf]
        refine ⟨hI.sound x, fun h => ?_⟩
        induction h with
        | first u h => exact hI.firsts u h
        | next r u hr hne h ih =>
          obtain ⟨j, hj, rfl⟩ := List.getElem_of_mem ((mem_keysOf done r).2 ih)
          have e : (keysOf done).getD j [] = (keysOf done)[j] := by rw [List.getD_eq_getElem?_getD, List.getElem?_eq_getElem hj, Option.getD_some]
          exact hI.nexts j (by have := hI.le; omega) (by rw [e]; exact hne) u (by rw [e]; exact h)
      have hres : sortW (keysOf done) = residL ws := residL_of (keysOf_nodup _) hmem
      by_cases hdn : done = []
      · subst hdn
        refine callK_ac (c83n (b := 6)) (by simp) ?_
        rintro v h' ⟨rfl, rfl⟩
        simp -implicitDefEqProofs only [killAll, List.foldl, go_sem]
        have e0 : keysOf [] = [] := rfl
        have es : sortW [] = [] := by simp [sortW]
        rw [← hres, e0, es]
        exact ⟨6, rk, ⟨rfl, rfl⟩, rfl, hI.ok.1⟩
      · have hown := hI.ok.2 hdn
        subst hown
        have hk := hI.keys_len
        have hsl := sufs_len (ws := ws) (n := 32) (fun w hw => by
          obtain ⟨j, hj, rfl⟩ := List.getElem_of_mem hw
          have := hv.short j hj
          rwa [List.getD_eq_getElem?_getD, List.getElem?_eq_getElem hj, Option.getD_some] at this)
        have hl2 := hv.len
        have hl3 : ws.length * (32 + 1) ≤ 64 * 33 := Nat.mul_le_mul_right _ hl2
        refine callK_ac (c83 (b := 6) (keysOf done) rfl (by omega)) (by simp) ?_
        rintro v h' ⟨rfl, rfl⟩
        simp -implicitDefEqProofs only [killAll, List.foldl, List.set_cons_succ, List.set_cons_zero, go_sem]
        rw [hres]
        exact ⟨6, .own, ⟨rfl, by rw [← hres, sortW_length]⟩, rfl, by simp⟩
end Go.Proofs.Ytpancbdaigaheaa
end

section
namespace Go.Proofs.Ytpancbdaigaheaa
open Go Go.AM
set_option maxRecDepth 100000
set_option linter.unusedSimpArgs false

/-- slices.IndexFunc: an index that is not negative exactly if some word will do. -/
theorem c49 {h : List AObj} {g : FuncId} {caps : List AV} {pr : List UInt8 → Bool} (ws : List (List UInt8)) (hl : ws.length ≤ 9223372036854775807)
    (hg : ∀ w ∈ ws, AC Try.prog g (.p (.str w) :: caps) h [] (fun v h' => v = .p (.bool (pr w)) ∧ h' = h)) :
    AC Try.prog 49 [.p (.sl (ws.map .str)), .fn g caps] h [] (fun v h' => (∃ i : Int, v = .p (.int .i64 i) ∧ decide (0 ≤ i) = ws.any pr) ∧ h' = h) := by
  refine AC.of_bodyE hΓ Try.func49 (by kernel_rfl) rfl (AWp.mono (Q := fun e st => AM.Ends e ∧ (∃ i : Int, st.tmps.getD 4 .junk = .p (.int .i64 i) ∧ decide (0 ≤ i) = ws.any pr) ∧ st.h = h) ?_ ?_)
  rotate_left
  · rintro e ⟨tm, h'⟩ ⟨he, ⟨i, h1, h3⟩, h2⟩
    simp only at h1 h2
    subst h2
    refine ⟨he, _, Less.refl _, ?_⟩
    unfold DoneE
    simp +contextual -implicitDefEqProofs only [Try.results49, h1, go_sem]
    exact ⟨_, Nat.le_refl _, .inl rfl, ⟨i, rfl, h3⟩, List.take_length⟩
  refine AWp.of_awpD [] hΓ hmix (by kernel_rfl) ?_
  simp +contextual -implicitDefEqProofs only [Try.ntmps49, Nat.reduceAdd, Nat.reduceSub, go_sem]
  refine AWp.loopI (fun k : Nat => ⟨mkF 19 [(0, .p (.sl (ws.map .str))), (1, .fn g caps), (7, .p (.int .i64 ws.length)), (8, .p (.int .i64 k))], h⟩)
    (fun k => k ≤ ws.length ∧ (ws.take k).any pr = false) (fun k => ws.length - k) 0 (by simp [go_sem, weakH_self]) (by simp) ?_
  rintro k ⟨hk, h0⟩
  refine AWp.of_awpD [] hΓ hmix (by kernel_rfl) ?_
  simp +contextual -implicitDefEqProofs only [getD_map_lt, ↓reduceIte, go_sem]
  refine ⟨fun hlt => ?_, fun hge => ⟨-1, rfl, by rw [List.take_of_length_le (by omega)] at h0; rw [h0]; rfl⟩⟩
  refine callK_ac (hg ws[k] (List.getElem_mem hlt)) (by simp) ?_
  rintro v h' ⟨rfl, rfl⟩
  cases hp : pr ws[k]
  · simp -implicitDefEqProofs only [killAll, List.foldl, go_sem]
    refine ⟨by simp only [InR]; omega, k + 1, by simp [weakH_self], ⟨hlt, ?_⟩, by omega⟩
    rw [List.take_succ_eq_append_getElem hlt, List.any_append, h0]; simp [hp]
  · simp -implicitDefEqProofs only [killAll, List.foldl, go_sem]
    refine ⟨k, rfl, ?_⟩
    rw [List.any_eq_true.2 ⟨_, List.getElem_mem hlt, hp⟩]; simp

theorem c17 {h : List AObj} {g : FuncId} {caps : List AV} {pr : List UInt8 → Bool} (ws : List (List UInt8)) (hl : ws.length ≤ 9223372036854775807)
    (hg : ∀ w ∈ ws, AC Try.prog g (.p (.str w) :: caps) h [] (fun v h' => v = .p (.bool (pr w)) ∧ h' = h)) :
    AC Try.prog 17 [.p (.sl (ws.map .str)), .fn g caps] h [] (fun v h' => v = .p (.bool (ws.any pr)) ∧ h' = h) := by
  refine AC.of_bodyE hΓ Try.func17 (by kernel_rfl) rfl (AWp.mono (Q := fun e st => AM.Ends e ∧ st.tmps.getD 4 .junk = .p (.bool (ws.any pr)) ∧ st.h = h) ?_ ?_)
  rotate_left
  · rintro e ⟨tm, h'⟩ ⟨he, h1, h2⟩
    simp only at h1 h2
    subst h2
    refine ⟨he, _, Less.refl _, ?_⟩
    unfold DoneE
    simp +contextual -implicitDefEqProofs only [Try.results17, h1, go_sem]
    exact ⟨_, Nat.le_refl _, .inl rfl, List.take_length⟩
  refine AWp.of_awpD [] hΓ hmix (by kernel_rfl) ?_
  simp +contextual -implicitDefEqProofs only [Try.ntmps17, Nat.reduceAdd, Nat.reduceSub, go_sem]
  refine callK_ac (c49 ws hl hg) (by simp) ?_
  rintro v h' ⟨⟨i, rfl, hi⟩, rfl⟩
  simp -implicitDefEqProofs only [killAll, List.foldl, go_sem]
  exact hi

theorem t33 (w : List UInt8) : PFn Try.prog 33 [.str w] [.bool (decide (40 < w.length))] := by
  refine PFn.of_body hΓ Try.func33 (by kernel_rfl) rfl (AWp.of_awpD [] hΓ hmix (by kernel_rfl) ?_)
  simp +contextual -implicitDefEqProofs only [Try.ntmps33, Try.results33, Nat.reduceAdd, Nat.reduceSub, go_sem]
  exact decide_eq_decide.2 (by omega)

def greatB (ws : List (List UInt8)) : Bool := ws.any greatW || ((decide (6 < ws.length) && decide (ws.length ≤ 64)) || decide (67 < ws.length))

theorem t6 (q : Int) (ws : List (List UInt8)) (m : List UInt8) (a b : List Int) (l : List (List UInt8)) (hws : ws.length ≤ 9223372036854775807) (ha : a.length ≤ 9223372036854775807) (hb : b.length ≤ 9223372036854775807) (hl : l.length ≤ 9223372036854775807) :
    PFn Try.prog 6 [codeV q ws, ambV m a b, .sl (l.map .str)] [.bool true] := by
  refine PFn.of_body hΓ Try.func6 (by kernel_rfl) rfl (AWp.of_awpD [(3, 19)] hΓ hmix (by kernel_rfl) ?_)
  simp +contextual -implicitDefEqProofs only [codeV, ambV, Try.ntmps6, Try.results6, Nat.reduceAdd, Nat.reduceSub, go_sem]
  have e24 : PFn Try.prog 24 [codeV q ws] [.bool (greatB ws)] := t24 q ws hws
  refine callK_fn e24 (.still rfl) ?_
  cases hg : greatB ws
  rotate_left
  · simp -implicitDefEqProofs only [go_sem]
    refine callK_fn awake_ok (.pures rfl) ?_
    simp -implicitDefEqProofs only [go_sem]
  by_cases h1 : 40 < (m.length : Int)
  · simp -implicitDefEqProofs only [h1, go_sem]
    refine callK_fn awake_ok (.pures rfl) ?_
    simp -implicitDefEqProofs only [go_sem]
  by_cases h2 : 20 < (a.length : Int)
  · simp -implicitDefEqProofs only [h1, h2, go_sem]
    refine callK_fn awake_ok (.pures rfl) ?_
    simp -implicitDefEqProofs only [go_sem]
  by_cases h3 : 20 < (b.length : Int)
  · simp -implicitDefEqProofs only [h1, h2, h3, go_sem]
    refine callK_fn awake_ok (.pures rfl) ?_
    simp -implicitDefEqProofs only [go_sem]
  by_cases h4 : 20 < (l.length : Int)
  · simp -implicitDefEqProofs only [h1, h2, h3, h4, go_sem]
    refine callK_fn awake_ok (.pures rfl) ?_
    simp -implicitDefEqProofs only [go_sem]
  simp -implicitDefEqProofs only [h1, h2, h3, h4, go_sem]
  refine callK_ac (c17 l hl (pr := fun w => decide (40 < w.length)) (fun w _ => AC.of_fn (t33 w) (.inl rfl))) (by simp) ?_
  rintro v h' ⟨rfl, rfl⟩
  cases h5 : l.any fun w => decide (40 < w.length)
  rotate_left
  · simp -implicitDefEqProofs only [killAll, List.foldl, go_sem]
    refine callK_fn awake_ok (.pures rfl) ?_
    simp -implicitDefEqProofs only [go_sem]
  simp -implicitDefEqProofs only [killAll, List.foldl, go_sem]
  refine callVPK_fn (t34 q ws m a b ha hb) (.still rfl) ?_
  simp -implicitDefEqProofs only [go_sem]
  refine callVPK_fn (t35 q ws m a b ha hb) (.still rfl) ?_
  simp -implicitDefEqProofs only [go_sem]
  refine callVPK_fn (t23 q ws l (by omega)) (.still rfl) ?_
  simp -implicitDefEqProofs only [go_sem]
  refine callVPK_fn (t36 q ws l (by omega)) (.still rfl) ?_
  simp -implicitDefEqProofs only [go_sem]
  refine callVPK_fn awake_ok (.pures rfl) ?_
  simp -implicitDefEqProofs only [go_sem]
end Go.Proofs.Ytpancbdaigaheaa
end

section
namespace Go.Proofs.Ytpancbdaigaheaa
open Go Go.AM
set_option maxRecDepth 100000
set_option linter.unusedSimpArgs false

/-- Where a word is first, or -1. -/
def ixL (x : List UInt8) : List (List UInt8) → Nat → Int
  | [], _ => -1
  | a :: l, k => if a = x then k else ixL x l (k + 1)
theorem ixL_at (x : List UInt8) : ∀ (l : List (List UInt8)) (n k : Nat) (hk : k < l.length), (∀ j (hj : j < k), l[j] ≠ x) → l[k] = x → ixL x l n = ((n + k : Nat) : Int)
  | [], n, k, hk, _, _ => absurd hk (Nat.not_lt_zero k)
  | a :: l, n, 0, _, _, h => by
    have : a = x := h
    subst this; unfold ixL; simp
  | a :: l, n, k + 1, hk, h0, h => by
    have h1 : a ≠ x := h0 0 (by omega)
    unfold ixL
    rw [if_neg h1]
    refine (ixL_at x l (n + 1) k (by simpa using hk) (fun j hj => h0 (j + 1) (by omega)) h).trans ?_
    congr 1; omega
theorem ixL_none (x : List UInt8) : ∀ (l : List (List UInt8)) (n : Nat), x ∉ l → ixL x l n = -1
  | [], _, _ => rfl
  | a :: l, n, h => by
    simp only [List.mem_cons, not_or] at h
    unfold ixL
    rw [if_neg (fun e => h.1 e.symm)]
    exact ixL_none x l (n + 1) h.2
theorem ixL_mem (x : List UInt8) : ∀ (l : List (List UInt8)) (n : Nat), decide (0 ≤ ixL x l n) = decide (x ∈ l)
  | [], _ => by simp [ixL]
  | a :: l, n => by
    unfold ixL
    by_cases h : a = x
    · rw [if_pos h, decide_eq_true (by omega), decide_eq_true (by simp [h])]
    · rw [if_neg h, ixL_mem x l (n + 1)]
      exact decide_eq_decide.2 ⟨fun h' => by simp [h'], fun h' => (List.mem_cons.1 h').resolve_left (fun e => h e.symm)⟩

theorem t48 (ws : List (List UInt8)) (x : List UInt8) (hl : ws.length ≤ 9223372036854775807) : PFn Try.prog 48 [.sl (ws.map .str), .str x] [.int .i64 (ixL x ws 0)] := by
  refine PFn.of_body hΓ Try.func48 (by kernel_rfl) rfl (AWp.of_awpD [] hΓ hmix (by kernel_rfl) ?_)
  simp +contextual -implicitDefEqProofs only [Try.ntmps48, Try.results48, Nat.reduceAdd, Nat.reduceSub, go_sem]
  refine AWp.loopI (fun k : Nat => ⟨mkF 19 [(0, .p (.sl (ws.map .str))), (1, .p (.str x)), (7, .p (.int .i64 ws.length)), (8, .p (.int .i64 k))], []⟩)
    (fun k => k ≤ ws.length ∧ ∀ j (hj : j < ws.length), j < k → ws[j] ≠ x) (fun k => ws.length - k) 0 (by simp [go_sem]) (by simp) ?_
  rintro k ⟨hk, h0⟩
  refine AWp.of_awpD [] hΓ hmix (by kernel_rfl) ?_
  simp +contextual -implicitDefEqProofs only [getD_map_lt, ↓reduceIte, go_sem]
  refine ⟨fun hlt => ⟨fun he => ?_, fun hne => ⟨by simp only [InR]; omega, k + 1, by simp, ⟨hlt, fun j hj hjk => ?_⟩, by omega⟩⟩, fun hge => ?_⟩
  · rw [← he, ixL_at x ws 0 k hlt (fun j hj => h0 j (by omega) hj) he.symm]; simp
  · by_cases hjk' : j < k
    · exact h0 j hj hjk'
    · have : j = k := by omega
      subst this; exact fun e => hne e.symm
  · refine (ixL_none x ws 0 (fun hm => ?_)).symm
    obtain ⟨j, hj, e⟩ := List.getElem_of_mem hm
    exact h0 j hj (by omega) e

theorem t16 (ws : List (List UInt8)) (x : List UInt8) (hl : ws.length ≤ 9223372036854775807) : PFn Try.prog 16 [.sl (ws.map .str), .str x] [.bool (decide (x ∈ ws))] := by
  refine PFn.of_body hΓ Try.func16 (by kernel_rfl) rfl (AWp.of_awpD [] hΓ hmix (by kernel_rfl) ?_)
  simp +contextual -implicitDefEqProofs only [Try.ntmps16, Try.results16, Nat.reduceAdd, Nat.reduceSub, go_sem]
  refine callK_fn (t48 ws x hl) (.pures rfl) ?_
  simp -implicitDefEqProofs only [go_sem]
  exact ixL_mem x ws 0

theorem residL_len {q : Int} {ws : List (List UInt8)} (hv : Valid q ws) : (residL ws).length ≤ 2112 := by
  have h1 : residL ws ⊆ sufs ws := fun x hx => mem_sufs (reach_suffix (mem_residL.1 hx))
  have h2 := nodup_sub_lenW ((residL_strict ws).imp (fun h e => by subst e; exact ltW_irrefl _ h)) h1
  have h3 := sufs_len (ws := ws) (n := 32) (fun w hw => by
    obtain ⟨j, hj, rfl⟩ := List.getElem_of_mem hw
    have := hv.short j hj
    rwa [List.getD_eq_getElem?_getD, List.getElem?_eq_getElem hj, Option.getD_some] at this)
  have h4 : ws.length * (32 + 1) ≤ 64 * 33 := Nat.mul_le_mul_right _ hv.len
  omega

theorem t47 (q : Int) (ws : List (List UInt8)) (hv : Valid q ws) : PFn Try.prog 47 [codeV q ws] [.bool (!decide ([] ∈ residL ws))] := by
  have hr := residL_len hv
  refine PFn.of_body hΓ Try.func47 (by kernel_rfl) rfl (AWp.of_awpD [] hΓ hmix (by kernel_rfl) ?_)
  simp +contextual -implicitDefEqProofs only [codeV, Try.ntmps47, Try.results47, Nat.reduceAdd, Nat.reduceSub, go_sem]
  refine callK_fn (PFn.of_row (r46 q ws hv)) (.still rfl) ?_
  simp -implicitDefEqProofs only [go_sem]
  refine callK_fn (t16 (residL ws) [] (by omega)) (.pures rfl) ?_
  simp -implicitDefEqProofs only [go_sem]

theorem t15 (q : Int) (ws : List (List UInt8)) : PFn Try.prog 15 [codeV q ws] [.bool (if codeCheck q ws = 0 then !decide ([] ∈ residL ws) else false), .int .i64 (if codeCheck q ws = 0 then 0 else 1)] := by
  refine PFn.of_body hΓ Try.func15 (by kernel_rfl) rfl (AWp.of_awpD [] hΓ hmix (by kernel_rfl) ?_)
  simp +contextual -implicitDefEqProofs only [codeV, Try.ntmps15, Try.results15, Nat.reduceAdd, Nat.reduceSub, go_sem]
  refine callK_fn (t45 q ws) (.still rfl) ?_
  by_cases h : codeCheck q ws = 0
  · rw [h]
    simp -implicitDefEqProofs only [go_sem]
    refine callK_fn (t47 q ws (valid_of h)) (.still rfl) ?_
    simp -implicitDefEqProofs only [go_sem]
  · simp -implicitDefEqProofs only [h, go_sem]

theorem t14 (q : Int) (ws : List (List UInt8)) : PFn Try.prog 14 [codeV q ws] [.sl (if codeCheck q ws = 0 then (residL ws).map .str else []), .int .i64 (if codeCheck q ws = 0 then 0 else 1)] := by
  refine PFn.of_body hΓ Try.func14 (by kernel_rfl) rfl (AWp.of_awpD [] hΓ hmix (by kernel_rfl) ?_)
  simp +contextual -implicitDefEqProofs only [codeV, Try.ntmps14, Try.results14, Nat.reduceAdd, Nat.reduceSub, go_sem]
  refine callK_fn (t45 q ws) (.still rfl) ?_
  by_cases h : codeCheck q ws = 0
  · rw [h]
    simp -implicitDefEqProofs only [go_sem]
    refine callK_fn (PFn.of_row (r46 q ws (valid_of h))) (.still rfl) ?_
    simp -implicitDefEqProofs only [go_sem]
  · simp -implicitDefEqProofs only [h, go_sem]

theorem t12 (q : Int) (ws : List (List UInt8)) (hl : ws.length ≤ 9223372036854775807) : PFn Try.prog 12 [codeV q ws] [.bool (!greatB ws && decide (codeCheck q ws = 0))] := by
  have e24 : PFn Try.prog 24 [codeV q ws] [.bool (greatB ws)] := t24 q ws hl
  refine PFn.of_body hΓ Try.func12 (by kernel_rfl) rfl (AWp.of_awpD [] hΓ hmix (by kernel_rfl) ?_)
  simp +contextual -implicitDefEqProofs only [codeV, Try.ntmps12, Try.results12, Nat.reduceAdd, Nat.reduceSub, go_sem]
  refine callK_fn e24 (.still rfl) ?_
  cases hg : greatB ws
  · simp -implicitDefEqProofs only [go_sem]
    refine callK_fn (t44 q ws) (.still rfl) ?_
    simp -implicitDefEqProofs only [go_sem]
  · simp -implicitDefEqProofs only [go_sem]
    rfl

theorem t50 (w x : List UInt8) (hw : w.length ≤ 9223372036854775807) : PFn Try.prog 50 [.str w, .str x] [.bool (x.isSuffixOf w)] := by
  refine PFn.of_body hΓ Try.func50 (by kernel_rfl) rfl (AWp.of_awpD [] hΓ hmix (by kernel_rfl) ?_)
  simp +contextual -implicitDefEqProofs only [Try.ntmps50, Try.results50, Nat.reduceAdd, Nat.reduceSub, go_sem]
  refine ⟨fun h => ⟨by simp only [InR]; omega, by omega, ?_⟩, fun h => ?_⟩
  · rw [Bool.eq_iff_iff, List.isSuffixOf_iff_suffix, List.suffix_iff_eq_drop, decide_eq_true_eq, show ((w.length : Int) - x.length).toNat = w.length - x.length by omega]; exact eq_comm
  · rw [Bool.eq_iff_iff, List.isSuffixOf_iff_suffix]
    exact ⟨fun h => by simp at h, fun h' => absurd h'.length_le (by omega)⟩
theorem t19 (w x : List UInt8) (hw : w.length ≤ 9223372036854775807) : PFn Try.prog 19 [.str w, .str x] [.bool (x.isSuffixOf w)] := by
  refine PFn.of_body hΓ Try.func19 (by kernel_rfl) rfl (AWp.of_awpD [] hΓ hmix (by kernel_rfl) ?_)
  simp +contextual -implicitDefEqProofs only [Try.ntmps19, Try.results19, Nat.reduceAdd, Nat.reduceSub, go_sem]
  refine callK_fn (t50 w x hw) (.pures rfl) ?_
  simp +contextual -implicitDefEqProofs only [go_sem]
end Go.Proofs.Ytpancbdaigaheaa
end

section
namespace Go.Proofs.Ytpancbdaigaheaa
open Go Go.AM
set_option maxRecDepth 100000
set_option linter.unusedSimpArgs false

theorem getD_in {ws : List (List UInt8)} {i : Nat} (h : i < ws.length) : ws.getD i [] ∈ ws := by
  rw [List.getD_eq_getElem?_getD, List.getElem?_eq_getElem h, Option.getD_some]; exact List.getElem_mem h
theorem Valid.ne' {q : Int} {ws : List (List UInt8)} (hv : Valid q ws) : ∀ x ∈ ws, x ≠ [] := fun x hx => by
  obtain ⟨j, hj, rfl⟩ := List.getElem_of_mem hx
  have := hv.ne j hj
  rwa [List.getD_eq_getElem?_getD, List.getElem?_eq_getElem hj, Option.getD_some] at this
theorem Valid.amb {q : Int} {ws : List (List UInt8)} (hv : Valid q ws) : [] ∈ residL ws ↔ Amb ws := mem_residL.trans (amb_iff hv.ne' (distinct_idx hv))

theorem proof_reach {ws l : List (List UInt8)} (h : proofOK ws l = true) {u : List UInt8} (hr : Reach ws u) : u ∈ l := by
  unfold proofOK at h
  simp only [Bool.and_eq_true, List.all_eq_true, decide_eq_true_eq] at h
  induction hr with
  | first u hu => exact h.2 u hu
  | next r u hr hne hu ih => exact (h.1 r ih).2 u hu
theorem proof_ne {ws l : List (List UInt8)} (h : proofOK ws l = true) : [] ∉ l := fun hm => by
  unfold proofOK at h
  simp only [Bool.and_eq_true, List.all_eq_true, decide_eq_true_eq] at h
  exact (h.1 [] hm).1 rfl
theorem proof_not {q : Int} {ws l : List (List UInt8)} (h : proofCheck q ws l = 0) : [] ∉ residL ws := fun hm => by
  unfold proofCheck at h
  split at h
  · cases h
  · split at h
    · cases h
    · split at h
      · rename_i hok; exact proof_ne hok (proof_reach hok (mem_residL.1 hm))
      · cases h

theorem spells_flat {ws : List (List UInt8)} : ∀ {l : List Int} {w : List UInt8}, spellsB ws l w = true → (∀ i ∈ l, 0 ≤ i ∧ i < ws.length) ∧ w = (l.map fun i => ws.getD i.toNat []).flatten
  | [], w, h => by
    have : w = [] := by simpa [spellsB] using h
    subst this; simp
  | i :: l, w, h => by
    unfold spellsB at h
    split at h
    · rename_i hi
      split at h
      · rename_i hp
        obtain ⟨h1, h2⟩ := spells_flat h
        refine ⟨fun j hj => ?_, ?_⟩
        · rcases List.mem_cons.1 hj with rfl | hj
          · exact hi
          · exact h1 j hj
        · obtain ⟨t, ht⟩ := List.isPrefixOf_iff_prefix.1 hp
          rw [List.map_cons, List.flatten_cons, ← h2, ← ht, List.drop_left]
      · cases h
    · cases h

theorem map_inj {ws : List (List UInt8)} (hd : ∀ i j, i < ws.length → j < ws.length → ws.getD i [] = ws.getD j [] → i = j) : ∀ {a b : List Int}, (∀ i ∈ a, 0 ≤ i ∧ i < ws.length) → (∀ i ∈ b, 0 ≤ i ∧ i < ws.length) →
    (a.map fun i => ws.getD i.toNat []) = (b.map fun i => ws.getD i.toNat []) → a = b
  | [], [], _, _, _ => rfl
  | [], _ :: _, _, _, h => by simp at h
  | _ :: _, [], _, _, h => by simp at h
  | i :: a, j :: b, ha, hb, h => by
    simp only [List.map_cons, List.cons.injEq] at h
    have h1 := ha i (by simp)
    have h2 := hb j (by simp)
    have h3 := hd i.toNat j.toNat (by omega) (by omega) h.1
    have h4 := map_inj hd (fun x hx => ha x (by simp [hx])) (fun x hx => hb x (by simp [hx])) h.2
    rw [h4, show i = j by omega]

theorem amb_yes {q : Int} {ws : List (List UInt8)} {m : List UInt8} {a b : List Int} (hv : Valid q ws) (h : ambCheck q ws m a b = 0) : [] ∈ residL ws := by
  unfold ambCheck at h
  split at h
  · cases h
  · split at h
    · cases h
    · rename_i h1
      simp only [not_or, Bool.not_eq_false] at h1
      obtain ⟨h2, h3, h4⟩ := h1
      obtain ⟨a1, a2⟩ := spells_flat h3
      obtain ⟨b1, b2⟩ := spells_flat h4
      have hin : ∀ {l : List Int}, (∀ i ∈ l, 0 ≤ i ∧ i < ws.length) → ∀ x ∈ l.map fun i => ws.getD i.toNat [], x ∈ ws := fun h x hx => by
        obtain ⟨i, hi, rfl⟩ := List.mem_map.1 hx
        exact getD_in (by have := h i hi; omega)
      exact (hv.amb).2 ⟨_, _, hin a1, hin b1, fun e => h2 (map_inj (distinct_idx hv) a1 b1 e), a2.symm.trans b2⟩

/-! no word begins as "no word" does -/
def NW : List UInt8 := [110, 111, 32, 119, 111, 114, 100]
theorem nw_next {q : Int} {ws : List (List UInt8)} (hv : Valid q ws) : nextS ws NW = [] := by
  rw [List.eq_nil_iff_forall_not_mem]
  intro u hu
  have head : ∀ x ∈ ws, ∃ c l, x = c :: l ∧ okB q c = true := fun x hx => by
    obtain ⟨j, hj, rfl⟩ := List.getElem_of_mem hx
    have h1 := hv.word j hj
    have h2 := hv.ne j hj
    rw [List.getD_eq_getElem?_getD, List.getElem?_eq_getElem hj, Option.getD_some] at h1 h2
    cases hw : ws[j] with
    | nil => exact absurd hw h2
    | cons c l =>
      rw [hw] at h1
      refine ⟨c, l, rfl, ?_⟩
      unfold wordCheck at h1
      split at h1
      · cases h1
      · split at h1
        · cases h1
        · split at h1
          · rename_i hok; unfold okW at hok; simp only [List.all_cons, Bool.and_eq_true] at hok; exact hok.1
          · cases h1
  have bad : okB q 110 = false := by
    unfold okB
    have : ixB 110 L16 0 = -1 := by decide
    rw [this]; rfl
  obtain ⟨x, hx, ⟨hp, _⟩ | ⟨_, hp, _⟩⟩ := mem_nextS.1 hu
  · obtain ⟨c, l, rfl, hc⟩ := head x hx
    unfold NW at hp
    simp only [List.isPrefixOf, Bool.and_eq_true, beq_iff_eq] at hp
    rw [hp.1, bad] at hc; cases hc
  · obtain ⟨c, l, rfl, hc⟩ := head x hx
    unfold NW at hp
    simp only [List.isPrefixOf, Bool.and_eq_true, beq_iff_eq] at hp
    rw [← hp.1, bad] at hc; cases hc

theorem proof_more {q : Int} {ws l : List (List UInt8)} (hv : Valid q ws) (hl : l.length ≤ 1000) (h : proofCheck q ws l = 0) : proofCheck q ws (l ++ [NW]) = 0 := by
  unfold proofCheck at h ⊢
  split at h
  · cases h
  · rename_i h1
    rw [if_neg h1]
    split at h
    · cases h
    · rw [if_neg (by simp only [List.length_append, List.length_cons, List.length_nil]; omega)]
      split at h
      · rename_i hok
        rw [if_pos]
        unfold proofOK at hok ⊢
        simp only [Bool.and_eq_true, List.all_eq_true, decide_eq_true_eq] at hok ⊢
        refine ⟨fun r hr => ?_, fun u hu => List.mem_append.2 (.inl (hok.2 u hu))⟩
        rcases List.mem_append.1 hr with hr | hr
        · exact ⟨(hok.1 r hr).1, fun u hu => List.mem_append.2 (.inl ((hok.1 r hr).2 u hu))⟩
        · rw [List.mem_singleton] at hr; subst hr
          exact ⟨by unfold NW; simp, by rw [nw_next hv]; simp⟩
      · cases h
end Go.Proofs.Ytpancbdaigaheaa
end

section
namespace Go.Proofs.Ytpancbdaigaheaa
open Go Go.AM
set_option maxRecDepth 100000
set_option linter.unusedSimpArgs false

theorem size_str (l : List (List UInt8)) : sizeOK (l.map .str) 1 := fun x hx => by
  obtain ⟨b, _, rfl⟩ := List.mem_map.1 hx
  rfl
theorem one_str (l : List (List UInt8)) : oneOK (l.map .str) := fun x hx c hc => by
  obtain ⟨b, _, rfl⟩ := List.mem_map.1 hx
  have : c = .str b := by simpa [PV.cells] using hc
  subst this; rfl

theorem c22 {h : List AObj} (ws : List (List UInt8)) (hl : ws.length ≤ 1000000) :
    AC Try.prog 22 [.p (.sl (ws.map .str))] h [] (fun v h' => (ws = [] ∧ v = .full [] ∧ h' = h) ∨ (∃ rk, rk ≠ .raw ∧ (ws ≠ [] → rk = .own) ∧ v = .own h.length ws.length ∧ h' = h ++ [.row 9 1 (ws.map .str) rk])) := by
  refine AC.of_bodyE hΓ Try.func22 (by kernel_rfl) rfl (AWp.mono (Q := fun e st => AM.Ends e ∧ ((ws = [] ∧ st.tmps.getD 2 .junk = .full [] ∧ st.h = h) ∨ (∃ rk, rk ≠ .raw ∧ (ws ≠ [] → rk = .own) ∧ st.tmps.getD 2 .junk = .own h.length ws.length ∧ st.h = h ++ [.row 9 1 (ws.map .str) rk]))) ?_ ?_)
  rotate_left
  · rintro e ⟨tm, h'⟩ ⟨he, ⟨hw, h1, h2⟩ | ⟨rk, hr, hr2, h1, h2⟩⟩
    · simp only at h1 h2
      subst h2
      refine ⟨he, _, Less.refl _, ?_⟩
      unfold DoneE
      simp +contextual -implicitDefEqProofs only [Try.results22, h1, go_sem]
      exact ⟨_, Nat.le_refl _, .inl rfl, .inl ⟨hw, List.take_length⟩⟩
    · simp only at h1 h2
      subst h2
      refine ⟨he, _, Less.refl _, ?_⟩
      unfold DoneE
      simp +contextual -implicitDefEqProofs only [Try.results22, h1, go_sem]
      exact ⟨h.length + 1, by omega, .inl (by simp), .inr ⟨rk, hr, hr2, List.take_of_length_le (by simp)⟩⟩
  refine AWp.of_awpD [] hΓ hmix (by kernel_rfl) ?_
  cases ws with
  | nil =>
    simp -implicitDefEqProofs only [Try.ntmps22, Nat.reduceAdd, Nat.reduceSub, go_sem]
    exact ⟨⟨by simp [sizeOK], by omega⟩, ⟨by simp [sizeOK], by simp [oneOK]⟩, ⟨by simp [sizeOK], by omega, by omega⟩, .inr ⟨.lax, by simp, rfl⟩⟩
  | cons x l =>
    simp -implicitDefEqProofs only [Try.ntmps22, Nat.reduceAdd, Nat.reduceSub, go_sem]
    have h1 := size_str (x :: l)
    have h2 := one_str (x :: l)
    simp only [List.map_cons] at h1 h2
    simp only [List.length_cons] at hl
    exact ⟨⟨by simp [sizeOK], by omega⟩, ⟨h1, h2⟩, ⟨by simp [sizeOK], by omega, by omega⟩, .inr ⟨.own, by simp, rfl, rfl⟩⟩
end Go.Proofs.Ytpancbdaigaheaa
end

section
namespace Go.Proofs.Ytpancbdaigaheaa
open Go Go.AM
set_option maxRecDepth 100000
set_option linter.unusedSimpArgs false

theorem t37 (w : List UInt8) : PFn Try.prog 37 [.str w] [.bool (decide (40 < w.length))] := by
  refine PFn.of_body hΓ Try.func37 (by kernel_rfl) rfl (AWp.of_awpD [] hΓ hmix (by kernel_rfl) ?_)
  simp +contextual -implicitDefEqProofs only [Try.ntmps37, Try.results37, Nat.reduceAdd, Nat.reduceSub, go_sem]
  exact decide_eq_decide.2 (by omega)

theorem t8 (q : Int) (ws : List (List UInt8)) (m : List UInt8) (a b : List Int) (l : List (List UInt8)) (hws : ws.length ≤ 9223372036854775807) (ha : a.length ≤ 9223372036854775807) (hb : b.length ≤ 9223372036854775807) (hl : l.length ≤ 9223372036854775807) :
    PFn Try.prog 8 [codeV q ws, ambV m a b, .sl (l.map .str)] [.bool true] := by
  refine PFn.of_body hΓ Try.func8 (by kernel_rfl) rfl (AWp.of_awpD [(4, 8), (7, 1000)] hΓ hmix (by kernel_rfl) ?_)
  simp +contextual -implicitDefEqProofs only [codeV, ambV, Try.ntmps8, Try.results8, Nat.reduceAdd, Nat.reduceSub, go_sem]
  refine callK_fn (t12 q ws hws) (.still rfl) ?_
  cases hf : (!greatB ws && decide (codeCheck q ws = 0))
  · simp -implicitDefEqProofs only [go_sem]
    refine callK_fn awake_ok (.pures rfl) ?_
    simp -implicitDefEqProofs only [go_sem]
  simp only [Bool.and_eq_true, decide_eq_true_eq] at hf
  have h := hf.2
  have hv := valid_of h
  have e15 := t15 q ws
  rw [if_pos h, if_pos h] at e15
  by_cases h1 : 40 < (m.length : Int)
  · simp -implicitDefEqProofs only [h1, go_sem]
    refine callK_fn awake_ok (.pures rfl) ?_
    simp -implicitDefEqProofs only [go_sem]
  by_cases h2 : 20 < (a.length : Int)
  · simp -implicitDefEqProofs only [h1, h2, go_sem]
    refine callK_fn awake_ok (.pures rfl) ?_
    simp -implicitDefEqProofs only [go_sem]
  by_cases h3 : 20 < (b.length : Int)
  · simp -implicitDefEqProofs only [h1, h2, h3, go_sem]
    refine callK_fn awake_ok (.pures rfl) ?_
    simp -implicitDefEqProofs only [go_sem]
  by_cases h4 : 20 < (l.length : Int)
  · simp -implicitDefEqProofs only [h1, h2, h3, h4, go_sem]
    refine callK_fn awake_ok (.pures rfl) ?_
    simp -implicitDefEqProofs only [go_sem]
  simp -implicitDefEqProofs only [h1, h2, h3, h4, go_sem]
  refine callK_ac (c17 l hl (pr := fun w => decide (40 < w.length)) (fun w _ => AC.of_fn (t37 w) (.inl rfl))) (by simp) ?_
  rintro v h' ⟨rfl, rfl⟩
  cases h5 : l.any fun w => decide (40 < w.length)
  rotate_left
  · simp -implicitDefEqProofs only [killAll, List.foldl, go_sem]
    refine callK_fn awake_ok (.pures rfl) ?_
    simp -implicitDefEqProofs only [go_sem]
  simp -implicitDefEqProofs only [killAll, List.foldl, go_sem]
  refine callK_fn e15 (.still rfl) ?_
  simp -implicitDefEqProofs only [go_sem]
  refine callVPK_fn (t23 q ws l (by omega)) (.still rfl) ?_
  simp -implicitDefEqProofs only [go_sem]
  refine callVPK_fn (t34 q ws m a b ha hb) (.still rfl) ?_
  by_cases hp : proofCheck q ws l = 0
  · have hn := proof_not hp
    have hm : ¬ ambCheck q ws m a b = 0 := fun e => hn (amb_yes hv e)
    have hmore := proof_more hv (by omega) hp
    rw [decide_eq_false hn, hp]
    simp -implicitDefEqProofs only [hm, go_sem]
    refine AWp.planL [.q 0, .q 1, .q 2, .q 3, .q 4, .q 6, .e 5, .s 3, .s 6, .e 7, .s 3, .e 8, .q 9, .q 10, .q 11, .e 12, .q 13, .q 14] hΓ hmix (by kernel_rfl) ?_
    simp -implicitDefEqProofs only [go_sem]
    refine ⟨⟨size_str [NW], by omega⟩, ?_⟩
    refine callK_ac (c22 l (by omega)) (by simp) ?_
    rintro v h' (⟨rfl, rfl, rfl⟩ | ⟨rk, hr, _, rfl, rfl⟩)
    · simp -implicitDefEqProofs only [killAll, List.foldl, go_sem]
      refine ⟨⟨size_str [NW], by omega⟩, ⟨size_str [NW], one_str [NW]⟩, ⟨by simp [sizeOK], by omega, by omega⟩, ?_⟩
      refine callK_fn (t23 q ws [NW] (by simp)) (.owned rfl rfl) ?_
      rw [show proofCheck q ws [NW] = 0 from hmore]
      simp -implicitDefEqProofs only [go_sem]
      refine callK_fn awake_ok (.pures rfl) ?_
      simp -implicitDefEqProofs only [go_sem]
    · simp -implicitDefEqProofs only [killAll, List.foldl, go_sem]
      refine ⟨⟨size_str [NW], by omega⟩, ⟨size_str [NW], one_str [NW]⟩, ⟨hr, .inl (by omega), by omega, by omega⟩, ?_⟩
      have e23 := t23 q ws (l ++ [NW]) (by simp; omega)
      rw [show (l ++ [NW]).map PV.str = l.map .str ++ [.str NW] by simp, hmore] at e23
      refine callK_fn e23 (.owned rfl rfl) ?_
      simp -implicitDefEqProofs only [go_sem]
      refine callK_fn awake_ok (.pures rfl) ?_
      simp -implicitDefEqProofs only [go_sem]
  · have key : (¬ ambCheck q ws m a b = 0) ∨ (ambCheck q ws m a b = 0 ∧ [] ∈ residL ws) := by
      by_cases hm : ambCheck q ws m a b = 0
      · exact .inr ⟨hm, amb_yes hv hm⟩
      · exact .inl hm
    rcases key with hm | ⟨hm, hy⟩
    case' inl => simp -implicitDefEqProofs only [hp, hm, go_sem]
    case' inr =>
      rw [decide_eq_true hy, hm]
      simp -implicitDefEqProofs only [hp, go_sem]
    all_goals
      refine AWp.planL [.q 0, .q 1, .q 2, .q 3, .q 4, .q 6, .e 5, .s 3, .s 6, .e 7, .s 3, .e 8, .q 9, .q 10, .q 11, .e 12, .q 13, .q 14] hΓ hmix (by kernel_rfl) ?_
      simp -implicitDefEqProofs only [hp, go_sem]
      refine callK_fn awake_ok (.pures rfl) ?_
      simp -implicitDefEqProofs only [go_sem]
end Go.Proofs.Ytpancbdaigaheaa
end

section
namespace Go.Proofs.Ytpancbdaigaheaa
open Go Go.AM Go.RowKit Go.ChangeShapes
set_option maxRecDepth 100000

theorem own : ownKnob Try.prog.godebug = none := by kernel_rfl
theorem laidOut : laidOutB Try.prog = true := by kernel_rfl

def codeSh : Sh := .agg [.int .i64, .sl .str]
def ambSh : Sh := .agg [.str, .sl (.int .i64), .sl (.int .i64)]

theorem strs_of {l : List PV} (h : ∀ i, i < l.length → Fit .str (l.getD i default)) : ∃ ws : List (List UInt8), l = ws.map .str ∧ ∀ w ∈ ws, w.length ≤ maxLen := by
  induction l with
  | nil => exact ⟨[], rfl, by simp⟩
  | cons x l ih =>
    obtain ⟨ws, h1, h2⟩ := ih (fun i hi => h (i + 1) (by simpa using hi))
    have h0 := h 0 (by simp)
    simp only [List.getD_cons_zero] at h0
    cases h0 with
    | str s hs => exact ⟨s :: ws, by rw [h1]; rfl, fun w hw => by
        rcases List.mem_cons.1 hw with rfl | hw
        · exact hs
        · exact h2 w hw⟩
theorem ints_of {l : List PV} (h : ∀ i, i < l.length → Fit (.int .i64) (l.getD i default)) : ∃ a : List Int, l = a.map (.int .i64) ∧ ∀ x ∈ a, InR .i64 x := by
  induction l with
  | nil => exact ⟨[], rfl, by simp⟩
  | cons x l ih =>
    obtain ⟨a, h1, h2⟩ := ih (fun i hi => h (i + 1) (by simpa using hi))
    have h0 := h 0 (by simp)
    simp only [List.getD_cons_zero] at h0
    cases h0 with
    | int _ n hn => exact ⟨n :: a, by rw [h1]; rfl, fun w hw => by
        rcases List.mem_cons.1 hw with rfl | hw
        · exact hn
        · exact h2 w hw⟩
theorem words_of {p : PV} (h : Fit (.sl .str) p) : ∃ ws : List (List UInt8), p = .sl (ws.map .str) ∧ ws.length ≤ maxLen ∧ ∀ w ∈ ws, w.length ≤ maxLen := by
  cases h with
  | sl _ l h1 h2 =>
    obtain ⟨ws, rfl, h3⟩ := strs_of h2
    exact ⟨ws, rfl, by simpa using h1, h3⟩
theorem nums_of {p : PV} (h : Fit (.sl (.int .i64)) p) : ∃ a : List Int, p = .sl (a.map (.int .i64)) ∧ a.length ≤ maxLen ∧ ∀ x ∈ a, InR .i64 x := by
  cases h with
  | sl _ l h1 h2 =>
    obtain ⟨a, rfl, h3⟩ := ints_of h2
    exact ⟨a, rfl, by simpa using h1, h3⟩
theorem code_of {p : PV} (h : Fit codeSh p) : ∃ (q : Int) (ws : List (List UInt8)), p = codeV q ws ∧ InR .i64 q ∧ ws.length ≤ maxLen ∧ ∀ w ∈ ws, w.length ≤ maxLen := by
  cases h with
  | agg _ l h1 h2 =>
    match l, h1 with
    | [x, y], _ =>
      have h3 := h2 0 (by simp)
      have h4 := h2 1 (by simp)
      simp only [List.getD_cons_zero, List.getD_cons_succ] at h3 h4
      obtain ⟨ws, rfl, h5⟩ := words_of h4
      cases h3 with
      | int _ n hn => exact ⟨n, ws, rfl, hn, h5⟩
theorem amb_of {p : PV} (h : Fit ambSh p) : ∃ (m : List UInt8) (a b : List Int), p = ambV m a b ∧ m.length ≤ maxLen ∧ a.length ≤ maxLen ∧ b.length ≤ maxLen := by
  cases h with
  | agg _ l h1 h2 =>
    match l, h1 with
    | [x, y, z], _ =>
      have h3 := h2 0 (by simp)
      have h4 := h2 1 (by simp)
      have h5 := h2 2 (by simp)
      simp only [List.getD_cons_zero, List.getD_cons_succ] at h3 h4 h5
      obtain ⟨a, rfl, ha, _⟩ := nums_of h4
      obtain ⟨b, rfl, hb, _⟩ := nums_of h5
      cases h3 with
      | str m hm => exact ⟨m, a, b, rfl, hm, ha, hb⟩

end Go.Proofs.Ytpancbdaigaheaa
end

