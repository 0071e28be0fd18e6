/-
  The program's residuals.
  Contains; decodable, Decodable and Residuals of the program.
  Plain law of certificates: an accepted proof keeps the empty word away; an accepted ambiguity brings it; a proof remains one with a further word from which nothing follows.
  ratio of small numbers; the law MeasureDecodable, ratio and decodability being known.
-/
import Derived.Test.YtpljmccnfmkmfaaGreatJ4acf21a6d070
import Derived.Test.YtpljmccnfmkmfaaGreatJ2157f0a3304a
import Derived.Test.YtpljmccnfmkmfaaGreatJ4b038eebb84e
import Derived.Test.YtpljmccnfmkmfaaGreatJ52dc7803fbba

section
namespace Go.Proofs.YtpljmccnfmkmfaaGreat.Dc
open Go Go.AM
set_option maxRecDepth 100000
set_option linter.unusedSimpArgs false

theorem pairsN_len (ws : List (List UInt8)) : ∀ n, (pairsN ws n).length ≤ n * ws.length
  | 0 => by simp [pairsN]
  | n + 1 => by
    have h1 : ∀ l : List (List UInt8), ∀ x, (l.flatMap (pairAt x)).length ≤ l.length := fun l x => by
      induction l with
      | nil => simp
      | cons y l ih =>
        have : (pairAt x y).length ≤ 1 := by unfold pairAt; split <;> simp
        simp only [List.flatMap_cons, List.length_append, List.length_cons]; omega
    have h2 := h1 (ws.take ws.length) (ws.getD n [])
    rw [List.take_length] at h2
    have h3 := pairsN_len ws n
    rw [pairsN_succ, List.length_append, Nat.succ_mul]
    unfold pairsK
    rw [List.take_length]; omega

def RKok (done : List (List UInt8)) (rk : RK) : Prop := rk ≠ .raw ∧ (done ≠ [] → rk = .own)

theorem heapR_len (q : Int) (ws done : List (List UInt8)) (rk : RK) (T : List AObj) : (heapR q ws done rk T).length = T.length + 7 := by simp [heapR]
theorem heapR_snoc (q : Int) (ws done : List (List UInt8)) (rk : RK) (T : List AObj) (o : AObj) : heapR q ws done rk T ++ [o] = heapR q ws done rk (T ++ [o]) := by simp [heapR]

theorem add86 {E : Env} (hP : E.P = Tryz.prog) (hn : E.n0 = 0) {tm : List AV} {Q : Exit → St → Prop} {f : Operand} {ps : List Nat} {assign body : Code} (q : Int) (ws : List (List UInt8)) (hws : ws.length ≤ 64)
    (hf : ev tm f = .fn 252 [.ptr 5 0]) (htm : killAll [6] tm = tm)
    (hround : ∀ done rk y r, RKok done rk → done.length ≤ 5000 → YC Tryz.prog 7 [.p (.str y), .p (.str r)] (heapR q ws done rk [.lp tm ps assign body .ready]) [6]
      (fun v h'' => v = .p (.bool true) ∧ ∃ rk', RKok (done ++ [r]) rk' ∧ h'' = heapR q ws (done ++ [r]) rk' [.lp tm ps assign body .ready]))
    (h1 : ∀ rk, RKok ((pairs ws).map (·.2)) rk → Q .normal ⟨tm, heapR q ws ((pairs ws).map (·.2)) rk [.dead]⟩) : AWp E none (.rangeFunc f ps.toArray assign body) Q ⟨tm, heapR q ws [] .lax []⟩ := by
  have hlen : (pairs ws).length ≤ 4096 := by
    have h1 := pairsN_len ws ws.length
    have h2 : ws.length * ws.length ≤ 64 * 64 := Nat.mul_le_mul hws hws
    unfold pairs; omega
  have hac : AC Tryz.prog 252 [.yld 7, .ptr 5 0] (heapR q ws [] .lax [.lp tm ps assign body .ready]) [6]
      (fun _ h' => (∃ rk, RKok ((pairs ws).map (·.2)) rk ∧ h' = heapR q ws ((pairs ws).map (·.2)) rk [.lp tm ps assign body .ready]) ∨ False) := by
    refine c86 (b := 7) (c := 5) (ks := [6]) (by simp) (by simp) q ws (by omega) (J := fun done h' => ∃ rk, RKok (done.map (·.2)) rk ∧ h' = heapR q ws (done.map (·.2)) rk [.lp tm ps assign body .ready]) (D := fun _ => False) ⟨.lax, ⟨by simp, fun h => absurd rfl h⟩, rfl⟩ ?_ ?_ ?_
    · rintro done h' ⟨rk, _, rfl⟩
      exact ⟨rfl, by rw [heapR_len, heapR_len]; exact Nat.le_refl _⟩
    · intro h' h; exact h.elim
    · rintro done y r h' ⟨l, hl⟩ ⟨rk, hrk, rfl⟩
      have hd : done.length ≤ 4096 := by
        have := congrArg List.length hl
        simp only [List.length_append, List.length_cons] at this; omega
      have hy := hround (done.map (·.2)) rk y r hrk (by rw [List.length_map]; omega)
      intro X I μ ob w cargs R hl2 ha hk
      obtain ⟨l', fn, tmps, a', b', e1, e2, e3⟩ := hy X I μ ob w cargs R hl2 ha hk
      refine ⟨l', fn, tmps, a', b', e1, e2, ?_⟩
      refine e3.mono ?_
      rintro e w' ⟨cv, v, h', I', μ', ob', g1, g2, g3, g4, g5, g6, g7, g8, g9, k1, rk', k2, k3⟩
      exact ⟨cv, v, h', I', μ', ob', g1, g2, g3, g4, g5, g6, g7, g8, g9, .inl ⟨k1, rk', by rw [List.map_append]; exact k2, by rw [List.map_append]; exact k3⟩⟩
  obtain ⟨P, Γ', n0, ks⟩ := E
  simp only at hP hn; subst hP hn
  refine AWp.rangeFunc (h := heapR q ws [] .lax []) (ks := [6]) hf (by rw [heapR_snoc]; exact hac) (fun k _ => .inl (Nat.zero_le k)) (by rw [heapR_len]; simp) ?_
  rintro v h' (⟨rk, hrk, rfl⟩ | h)
  · have := h1 rk hrk
    unfold RangeK
    rw [htm]
    exact this
  · exact h.elim

theorem foldK_prefix : ∀ (l acc : List (List UInt8)), acc <+: l.foldl addK acc
  | [], acc => List.prefix_refl _
  | a :: l, acc => by
    rw [List.foldl_cons]
    refine List.IsPrefix.trans ?_ (foldK_prefix l _)
    unfold addK
    split
    · exact List.prefix_refl _
    · exact List.prefix_append _ _
theorem keysOf_prefix (done l : List (List UInt8)) : keysOf done <+: keysOf (done ++ l) := by unfold keysOf; rw [List.foldl_append]; exact foldK_prefix l _
theorem keysOf_getD {done l : List (List UInt8)} {j : Nat} (hj : j < (keysOf done).length) : (keysOf (done ++ l)).getD j [] = (keysOf done).getD j [] := by
  obtain ⟨t, ht⟩ := keysOf_prefix done l
  rw [← ht]
  simp only [List.getD_eq_getElem?_getD, List.getElem?_append_left hj]

theorem nodup_sub_lenW : ∀ {l m : List (List UInt8)}, l.Nodup → l ⊆ m → l.length ≤ m.length
  | [], _, _, _ => Nat.zero_le _
  | a :: l, m, h, hs => by
    obtain ⟨h1, h2⟩ := List.nodup_cons.1 h
    have ha : a ∈ m := hs (by simp)
    have := nodup_sub_lenW (m := m.erase a) h2 (fun x hx => (List.mem_erase_of_ne (fun e : x = a => h1 (e ▸ hx))).2 (hs (by simp [hx])))
    rw [List.length_erase_of_mem ha] at this
    have := List.length_pos_of_mem ha
    simp only [List.length_cons]; omega

structure Inv2 (ws : List (List UInt8)) (i : Nat) (done : List (List UInt8)) (rk : RK) : Prop where
  ok : RKok done rk
  sound : ∀ x ∈ done, Reach ws x
  firsts : ∀ u ∈ firstS ws, u ∈ done
  le : i ≤ (keysOf done).length
  nexts : ∀ j, j < i → (keysOf done).getD j [] ≠ [] → ∀ u ∈ nextS ws ((keysOf done).getD j []), u ∈ done

theorem Inv2.keys_len {ws : List (List UInt8)} {i : Nat} {done : List (List UInt8)} {rk : RK} (h : Inv2 ws i done rk) : (keysOf done).length ≤ (sufs ws).length := by
  have h1 : keysOf done ⊆ sufs ws := fun x hx => mem_sufs (reach_suffix (h.sound x ((mem_keysOf _ _).1 hx)))
  exact nodup_sub_lenW (keysOf_nodup done) h1

theorem distinct_idx {q : Int} {ws : List (List UInt8)} (hv : Valid q ws) : ∀ i j, i < ws.length → j < ws.length → ws.getD i [] = ws.getD j [] → i = j := by
  intro i j hi hj e
  rcases Nat.lt_trichotomy i j with h1 | h1 | h1
  · exact absurd (e ▸ hv.lt i j h1 hj) (ltW_irrefl _)
  · exact h1
  · exact absurd (e ▸ hv.lt j i h1 hi) (ltW_irrefl _)

theorem nextS_eq (ws : List (List UInt8)) (r : List UInt8) : nextS ws r = (nextsP ws r).map (·.1) := by
  unfold nextS nextsP
  rw [List.map_flatMap]
  congr 1; funext x
  unfold nextAt nextP
  split
  · rfl
  · split <;> rfl

theorem nextsP_len (ws : List (List UInt8)) (r : List UInt8) : (nextsP ws r).length ≤ ws.length := by
  induction ws with
  | nil => simp [nextsP]
  | cons x ws ih =>
    have h : (nextP r x).length ≤ 1 := by unfold nextP; split; simp; split <;> simp
    unfold nextsP at ih ⊢
    simp only [List.flatMap_cons, List.length_append, List.length_cons]; omega

theorem add87 {E : Env} (hP : E.P = Tryz.prog) (hn : E.n0 = 0) {tm : List AV} {Q : Exit → St → Prop} {f : Operand} {ps : List Nat} {assign body : Code} (q : Int) (ws : List (List UInt8)) (hws : ws.length ≤ 64) (x : List UInt8) (done0 : List (List UInt8)) (rk0 : RK) (hrk0 : RKok done0 rk0) (T : List AObj) {c d : Nat}
    (hf : ev tm f = .fn 254 [.ptr (c + 7) 0, .ptr (d + 7) 0]) (hc : T[c]? = some (codeB q ws)) (hd : T[d]? = some (.box [.p (.str x)])) (htm : killAll [6] tm = tm) (hd0 : (keysOf done0).length ≤ 100000)
    (hround : ∀ done rk u n, RKok done rk → (keysOf done).length ≤ 1000000 → YC Tryz.prog (T.length + 7) [.p (.str u), .p (.int .i64 (n : Nat))] (heapR q ws done rk (T ++ [.lp tm ps assign body .ready])) [6]
      (fun v h'' => v = .p (.bool true) ∧ ∃ rk', RKok (done ++ [u]) rk' ∧ h'' = heapR q ws (done ++ [u]) rk' (T ++ [.lp tm ps assign body .ready])))
    (h1 : ∀ rk, RKok (done0 ++ (nextsP ws x).map (·.1)) rk → Q .normal ⟨tm, heapR q ws (done0 ++ (nextsP ws x).map (·.1)) rk (T ++ [.dead])⟩) : AWp E none (.rangeFunc f ps.toArray assign body) Q ⟨tm, heapR q ws done0 rk0 T⟩ := by
  have hcl : c < T.length := (List.getElem?_eq_some_iff.1 hc).1
  have hdl : d < T.length := (List.getElem?_eq_some_iff.1 hd).1
  have look : ∀ done rk o k v, T[k]? = some v → (heapR q ws done rk (T ++ [o]))[k + 7]? = some v := fun done rk o k v hk => by
    show (T ++ [o])[k]? = some v
    rw [List.getElem?_append_left (List.getElem?_eq_some_iff.1 hk).1]; exact hk
  have grow : ∀ l : List (List UInt8), (keysOf (done0 ++ l)).length ≤ (keysOf done0).length + l.length := fun l => by
    unfold keysOf; rw [List.foldl_append]; exact len_foldK l _
  have hac : AC Tryz.prog 254 [.yld (T.length + 7), .ptr (c + 7) 0, .ptr (d + 7) 0] (heapR q ws done0 rk0 (T ++ [.lp tm ps assign body .ready])) [6]
      (fun _ h' => (∃ rk, RKok (done0 ++ (nextsP ws x).map (·.1)) rk ∧ h' = heapR q ws (done0 ++ (nextsP ws x).map (·.1)) rk (T ++ [.lp tm ps assign body .ready])) ∨ False) := by
    refine c87 (h := heapR q ws done0 rk0 (T ++ [.lp tm ps assign body .ready])) (b := T.length + 7) (c := c + 7) (d := d + 7) (ks := [6]) (by simp) (by simp) (by simp) q ws x (by omega) (J := fun done h' => ∃ rk, RKok (done0 ++ done.map (·.1)) rk ∧ h' = heapR q ws (done0 ++ done.map (·.1)) rk (T ++ [.lp tm ps assign body .ready])) (D := fun _ => False) ⟨rk0, by simpa using hrk0, by simp⟩ ?_ ?_ ?_
    · rintro done h' ⟨rk, _, rfl⟩
      exact ⟨look _ _ _ _ _ hc, look _ _ _ _ _ hd, by rw [heapR_len, heapR_len]; exact Nat.le_refl _⟩
    · intro h' h; exact h.elim
    · rintro done u n h' ⟨l, hl⟩ ⟨rk, hrk, rfl⟩
      have hdn : done.length ≤ 64 := by
        have := congrArg List.length hl
        have h2 := nextsP_len ws x
        simp only [List.length_append, List.length_cons] at this; omega
      have hg := grow (done.map (·.1))
      rw [List.length_map] at hg
      have hy := hround (done0 ++ done.map (·.1)) rk u n hrk (by omega)
      intro X I μ ob w cargs R hl2 ha hk
      obtain ⟨l', fn, tmps, a', b', e1, e2, e3⟩ := hy X I μ ob w cargs R hl2 ha hk
      refine ⟨l', fn, tmps, a', b', e1, e2, ?_⟩
      refine e3.mono ?_
      rintro e w' ⟨cv, v, h', I', μ', ob', g1, g2, g3, g4, g5, g6, g7, g8, g9, k1, rk', k2, k3⟩
      exact ⟨cv, v, h', I', μ', ob', g1, g2, g3, g4, g5, g6, g7, g8, g9, .inl ⟨k1, rk', by rw [List.map_append, ← List.append_assoc]; exact k2, by rw [List.map_append, ← List.append_assoc]; exact k3⟩⟩
  obtain ⟨P, Γ', n0, ks⟩ := E
  simp only at hP hn; subst hP hn
  refine AWp.rangeFunc (h := heapR q ws done0 rk0 T) (ks := [6]) hf (by rw [heapR_snoc, heapR_len]; exact hac) (fun k _ => .inl (Nat.zero_le k)) (by rw [heapR_len]; simp) ?_
  rintro v h' (⟨rk, hrk, rfl⟩ | h)
  · have := h1 rk hrk
    unfold RangeK
    rw [htm, heapR_len]
    have e1 : (heapR q ws (done0 ++ (nextsP ws x).map (·.1)) rk (T ++ [.lp tm ps assign body .ready]))[T.length + 7]? = some (.lp tm ps assign body .ready) := by
      show (T ++ [_])[T.length]? = _
      simp
    rw [e1]
    have e2 : (heapR q ws (done0 ++ (nextsP ws x).map (·.1)) rk (T ++ [.lp tm ps assign body .ready])).set (T.length + 7) .dead = heapR q ws (done0 ++ (nextsP ws x).map (·.1)) rk (T ++ [.dead]) := by
      simp [heapR]
    simp only [e2]
    exact this
  · exact h.elim

theorem r46 (q : Int) (ws : List (List UInt8)) (hv : Valid q ws) : PRow Tryz.prog 177 [codeV q ws] 9 1 ((residL ws).map .str) := by
  refine AC.of_bodyE hΓ Tryz.func177 (by kernel_rfl) rfl (AWp.mono (Q := fun e st => AM.Ends e ∧ ∃ b rk, st.tmps.getD 2 .junk = .own b (residL ws).length ∧ st.h[b]? = some (.row 9 1 ((residL ws).map .str) rk) ∧ rk ≠ .raw) ?_ ?_)
  rotate_left
  · rintro e ⟨tm, h'⟩ ⟨he, b, rk, h1, h2, h3⟩
    simp only at h1 h2
    refine ⟨he, _, Less.refl _, ?_⟩
    unfold DoneE
    simp -implicitDefEqProofs only [Tryz.results177, h1, go_sem]
    refine ⟨_, by simp, .inl rfl, b, ?_⟩
    rw [List.take_length]
    exact ⟨rk, by simp, h2, h3⟩
  refine AWp.of_awpD [] hΓ hmix (by kernel_rfl) ?_
  simp -implicitDefEqProofs only [Tryz.ntmps177, Nat.reduceAdd, Nat.reduceSub, codeV, List.map_cons, List.map_nil, go_sem]
  refine callK_ac (c52 q ws) (by simp) ?_
  rintro v h' ⟨rfl, rfl⟩
  simp -implicitDefEqProofs only [killAll, List.foldl, codeB, List.cons_append, List.nil_append, go_sem]
  refine AWp.adoptBox (l := []) 3 9 1 rfl (by simp) ?_
  simp -implicitDefEqProofs only [List.set_cons_zero, List.set_cons_succ, List.length_cons, List.length_nil, List.cons_append, List.nil_append, Nat.reduceAdd, go_sem]
  refine add86 rfl rfl q ws hv.len rfl (by simp [killAll, AV.kill, AV.kill.killL]) ?_ ?_
  · intro done rk y r hrk hdl
    refine YC.of_body (Γ := Γ) rfl rfl (by simp) ?_
    intro rr
    refine AWp.of_awpD [] hΓ hmix (by kernel_rfl) ?_
    unfold heapR
    simp +contextual -implicitDefEqProofs only [setP, List.cons_append, List.nil_append, go_sem]
    unfold BeginE
    refine ⟨rfl, ?_⟩
    simp +contextual -implicitDefEqProofs only [List.length_cons, List.length_nil, List.cons_append, List.nil_append, codeB, go_sem]
    refine AWp.of_awpD [] hΓ hmix (by kernel_rfl) ?_
    simp -implicitDefEqProofs only [go_sem]
    have hkl := keysOf_len done
    refine callK_ac (c82 q ws done rk _ r hrk (by simp [AObj.kill, AV.kill, AV.kill.killL]) (by omega)) (by simp) ?_
    rintro v h' ⟨rfl, rk', hrk', rfl⟩
    unfold heapR
    simp -implicitDefEqProofs only [killAll, List.foldl, codeB, go_sem]
    exact ⟨8, by simp, .inl rfl, rfl, rk', hrk', rfl⟩
  · intro rk hrk
    unfold heapR
    simp -implicitDefEqProofs only [codeB, go_sem]
    refine AWp.loopI (fun p : Nat × List (List UInt8) × RK × Nat => ⟨mkF 44 [(1, .ptr 0 0), (3, .ptr 2 0), (4, .ptr 3 0), (5, .ptr 4 0), (8, .p (.int .i64 p.1))], heapR q ws p.2.1 p.2.2.1 (List.replicate p.2.2.2 .dead)⟩)
      (fun p => Inv2 ws p.1 p.2.1 p.2.2.1) (fun p => (sufs ws).length - p.1) (0, (pairs ws).map (·.2), rk, 1) (by simp [go_sem, heapR, codeB]) ?_ ?_
    · have hd := distinct_idx hv
      have hf : ∀ u, u ∈ (pairs ws).map (·.2) ↔ u ∈ firstS ws := fun u => by
        constructor
        · intro hu
          obtain ⟨p, hp, rfl⟩ := List.mem_map.1 hu
          exact (pairs_first hd (firstS ws)).2 (fun _ h => h) p hp
        · intro hu
          exact (pairs_first hd ((pairs ws).map (·.2))).1 (fun p hp => List.mem_map.2 ⟨p, hp, rfl⟩) u hu
      exact ⟨hrk, fun x hx => .first x ((hf x).1 hx), fun u hu => (hf u).2 hu, Nat.zero_le _, fun j hj => absurd hj (Nat.not_lt_zero j)⟩
    rintro ⟨i, done, rk, m⟩ hI
    simp only at hI
    generalize hTT : List.replicate m AObj.dead = T
    by_cases hlt : i < (keysOf done).length
    · have hdn : done ≠ [] := fun e => by subst e; simp [keysOf] at hlt
      have hown := hI.ok.2 hdn
      subst hown
      refine AWp.of_awpD [(11, 5)] hΓ hmix (by kernel_rfl) ?_
      unfold heapR
      simp -implicitDefEqProofs only [getD_map_lt, hlt, ↓reduceIte, codeB, go_sem]
      have hkey : (keysOf done).getD i [] = (keysOf done)[i] := by rw [List.getD_eq_getElem?_getD, List.getElem?_eq_getElem hlt, Option.getD_some]
      have hk := hI.keys_len
      have hsl := sufs_len (ws := ws) (n := 32) (fun w hw => by
        obtain ⟨j, hj, rfl⟩ := List.getElem_of_mem hw
        have := hv.short j hj
        rwa [List.getD_eq_getElem?_getD, List.getElem?_eq_getElem hj, Option.getD_some] at this)
      have hl3 : ws.length * (32 + 1) ≤ 64 * 33 := Nat.mul_le_mul_right _ hv.len
      refine ⟨fun he => ⟨by simp only [InR]; omega, (i + 1, done, .own, m), ⟨by simp, rfl, rfl, .inl ⟨rfl, rfl⟩, by rw [← hTT]; exact weakH_self _⟩, ⟨hI.ok, hI.sound, hI.firsts, hlt, fun j hj hne => ?_⟩, by simp only; omega⟩, fun hne => ?_⟩
      · by_cases hji : j < i
        · exact hI.nexts j hji hne
        · have : j = i := by omega
          subst this; rw [hkey] at hne; exact absurd he hne
      · refine callK_ac (c53 q ws (keysOf done)[i]) (by simp) ?_
        rintro v h' ⟨rfl, rfl⟩
        simp -implicitDefEqProofs only [killAll, List.foldl, codeB, List.cons_append, List.nil_append, go_sem]
        rw [show (#[36, 37] : Array Nat) = [36, 37].toArray from rfl]
        generalize hT2 : T ++ [AObj.box [.p (.int .i64 q), .p (.sl (ws.map .str))], .box [.p (.str (keysOf done)[i])]] = T2
        have gl : ∀ done rk x, (heapR q ws done rk (T2 ++ [x]))[T2.length + 7]? = some x := fun done rk x => by
          show (T2 ++ [x])[T2.length]? = _
          simp
        have gs : ∀ done rk x y, (heapR q ws done rk (T2 ++ [x])).set (T2.length + 7) y = heapR q ws done rk (T2 ++ [y]) := fun done rk x y => by simp [heapR]
        have f4 : ∀ done rk T, (heapR q ws done rk T)[4]? = some (.box [.fn 220 [.ptr 2 0, .ptr 3 0]]) := fun _ _ _ => rfl
        refine AWp.weak (st' := ⟨mkF 44 [(1, .ptr 0 0), (3, .ptr 2 0), (4, .ptr 3 0), (5, .ptr 4 0), (8, .p (.int .i64 i)), (35, .fn 254 [.ptr (T.length + 7) 0, .ptr (T.length + 1 + 7) 0])], heapR q ws done .own T2⟩) ?_ ?_
        · rw [← hT2]; simp [go_sem, heapR, codeB, weakH_self]
        refine add87 (c := T.length) (d := T.length + 1) rfl rfl q ws hv.len (keysOf done)[i] done .own hI.ok T2 rfl (by rw [← hT2]; simp [codeB]) (by rw [← hT2]; simp) (by simp [go_sem, killAll, AV.kill, AV.kill.killL]) (by omega) ?_ ?_
        · intro done2 rk2 u n hrk2 hk2
          refine YC.of_body (Γ := Γ) (gl _ _ _) rfl (by simp) ?_
          intro rr
          refine AWp.of_awpD [] hΓ hmix (by kernel_rfl) ?_
          simp -implicitDefEqProofs only [setP, go_sem]
          unfold BeginE
          refine ⟨rfl, ?_⟩
          simp only [gl, gs]
          refine AWp.of_awpD [] hΓ hmix (by kernel_rfl) ?_
          simp -implicitDefEqProofs only [f4, go_sem]
          refine callK_ac (c82 q ws done2 rk2 _ u hrk2 (by rw [← hT2, ← hTT]; simp [AObj.kill, AV.kill, AV.kill.killL]) (by omega)) (fun k hk => .inr hk) ?_
          rintro v h' ⟨rfl, rk', hrk', rfl⟩
          simp -implicitDefEqProofs only [killAll, List.foldl, go_sem]
          unfold RoundE
          simp only [gl, gs]
          exact ⟨_, by simp [heapR_len], .inl rfl, trivial, rk', hrk', List.take_length⟩
        · intro rk2 hrk2
          unfold heapR
          simp -implicitDefEqProofs only [codeB, go_sem]
          refine ⟨by simp only [InR]; omega, (i + 1, done ++ (nextsP ws (keysOf done)[i]).map (·.1), rk2, m + 3), ⟨by simp, rfl, rfl, .inl ⟨rfl, rfl⟩, ?_⟩, ?_, by simp only; omega⟩
          · have e3 : List.replicate (m + 3) AObj.dead = List.replicate (T2 ++ [AObj.dead]).length AObj.dead := by rw [← hT2, ← hTT]; simp
            simp only [e3]
            exact weakH_dead _
          · have hN := nextS_eq ws (keysOf done)[i]
            have hkr : Reach ws (keysOf done)[i] := hI.sound _ ((mem_keysOf _ _).1 (List.getElem_mem hlt))
            have hpre := (keysOf_prefix done ((nextsP ws (keysOf done)[i]).map (·.1))).length_le
            refine ⟨hrk2, fun x hx => ?_, fun u hu => List.mem_append.2 (.inl (hI.firsts u hu)), by simp only; omega, fun j hj hne2 u hu => ?_⟩
            · rcases List.mem_append.1 hx with hx | hx
              · exact hI.sound x hx
              · exact .next _ x hkr hne (by rw [hN]; exact hx)
            · rw [keysOf_getD (by omega)] at hne2 hu
              by_cases hji : j < i
              · exact List.mem_append.2 (.inl (hI.nexts j hji hne2 u hu))
              · have : j = i := by omega
                subst this
                rw [hkey, hN] at hu
                exact List.mem_append.2 (.inr hu)
    · refine AWp.of_awpD [(11, 5)] hΓ hmix (by kernel_rfl) ?_
      unfold heapR
      simp -implicitDefEqProofs only [getD_map_lt, hlt, ↓reduceIte, codeB, go_sem]
      have hmem : ∀ x, x ∈ keysOf done ↔ Reach ws x := fun x => by
        rw [mem_keysOf]
        refine ⟨hI.sound x, fun h => ?_⟩
        induction h with
        | first u h => exact hI.firsts u h
        | next r u hr hne h ih =>
          obtain ⟨j, hj, rfl⟩ := List.getElem_of_mem ((mem_keysOf done r).2 ih)
          have e : (keysOf done).getD j [] = (keysOf done)[j] := by rw [List.getD_eq_getElem?_getD, List.getElem?_eq_getElem hj, Option.getD_some]
          exact hI.nexts j (by have := hI.le; omega) (by rw [e]; exact hne) u (by rw [e]; exact h)
      have hres : sortW (keysOf done) = residL ws := residL_of (keysOf_nodup _) hmem
      by_cases hdn : done = []
      · subst hdn
        refine callK_ac (c83n (b := 6)) (by simp) ?_
        rintro v h' ⟨rfl, rfl⟩
        simp -implicitDefEqProofs only [killAll, List.foldl, go_sem]
        have e0 : keysOf [] = [] := rfl
        have es : sortW [] = [] := by simp [sortW]
        rw [← hres, e0, es]
        exact ⟨6, rk, ⟨rfl, rfl⟩, rfl, hI.ok.1⟩
      · have hown := hI.ok.2 hdn
        subst hown
        have hk := hI.keys_len
        have hsl := sufs_len (ws := ws) (n := 32) (fun w hw => by
          obtain ⟨j, hj, rfl⟩ := List.getElem_of_mem hw
          have := hv.short j hj
          rwa [List.getD_eq_getElem?_getD, List.getElem?_eq_getElem hj, Option.getD_some] at this)
        have hl2 := hv.len
        have hl3 : ws.length * (32 + 1) ≤ 64 * 33 := Nat.mul_le_mul_right _ hl2
        refine callK_ac (c83 (b := 6) (keysOf done) rfl (by omega)) (by simp) ?_
        rintro v h' ⟨rfl, rfl⟩
        simp -implicitDefEqProofs only [killAll, List.foldl, List.set_cons_succ, List.set_cons_zero, go_sem]
        rw [hres]
        exact ⟨6, .own, ⟨rfl, by rw [← hres, sortW_length]⟩, rfl, by simp⟩
end Go.Proofs.YtpljmccnfmkmfaaGreat.Dc
end

section
namespace Go.Proofs.YtpljmccnfmkmfaaGreat.Dc
open Go Go.AM
set_option maxRecDepth 100000
set_option linter.unusedSimpArgs false

def ixL (x : List UInt8) : List (List UInt8) → Nat → Int
  | [], _ => -1
  | a :: l, k => if a = x then k else ixL x l (k + 1)
theorem ixL_at (x : List UInt8) : ∀ (l : List (List UInt8)) (n k : Nat) (hk : k < l.length), (∀ j (hj : j < k), l[j] ≠ x) → l[k] = x → ixL x l n = ((n + k : Nat) : Int)
  | [], n, k, hk, _, _ => absurd hk (Nat.not_lt_zero k)
  | a :: l, n, 0, _, _, h => by
    have : a = x := h
    subst this; unfold ixL; simp
  | a :: l, n, k + 1, hk, h0, h => by
    have h1 : a ≠ x := h0 0 (by omega)
    unfold ixL
    rw [if_neg h1]
    refine (ixL_at x l (n + 1) k (by simpa using hk) (fun j hj => h0 (j + 1) (by omega)) h).trans ?_
    congr 1; omega
theorem ixL_none (x : List UInt8) : ∀ (l : List (List UInt8)) (n : Nat), x ∉ l → ixL x l n = -1
  | [], _, _ => rfl
  | a :: l, n, h => by
    simp only [List.mem_cons, not_or] at h
    unfold ixL
    rw [if_neg (fun e => h.1 e.symm)]
    exact ixL_none x l (n + 1) h.2
theorem ixL_mem (x : List UInt8) : ∀ (l : List (List UInt8)) (n : Nat), decide (0 ≤ ixL x l n) = decide (x ∈ l)
  | [], _ => by simp [ixL]
  | a :: l, n => by
    unfold ixL
    by_cases h : a = x
    · rw [if_pos h, decide_eq_true (by omega), decide_eq_true (by simp [h])]
    · rw [if_neg h, ixL_mem x l (n + 1)]
      exact decide_eq_decide.2 ⟨fun h' => by simp [h'], fun h' => (List.mem_cons.1 h').resolve_left (fun e => h e.symm)⟩

theorem t48 (ws : List (List UInt8)) (x : List UInt8) (hl : ws.length ≤ 9223372036854775807) : PFn Tryz.prog 219 [.sl (ws.map .str), .str x] [.int .i64 (ixL x ws 0)] := by
  refine PFn.of_body hΓ Tryz.func219 (by kernel_rfl) rfl (AWp.of_awpD [] hΓ hmix (by kernel_rfl) ?_)
  simp +contextual -implicitDefEqProofs only [Tryz.ntmps219, Tryz.results219, Nat.reduceAdd, Nat.reduceSub, go_sem]
  refine AWp.loopI (fun k : Nat => ⟨mkF 19 [(0, .p (.sl (ws.map .str))), (1, .p (.str x)), (7, .p (.int .i64 ws.length)), (8, .p (.int .i64 k))], []⟩)
    (fun k => k ≤ ws.length ∧ ∀ j (hj : j < ws.length), j < k → ws[j] ≠ x) (fun k => ws.length - k) 0 (by simp [go_sem]) (by simp) ?_
  rintro k ⟨hk, h0⟩
  refine AWp.of_awpD [] hΓ hmix (by kernel_rfl) ?_
  simp +contextual -implicitDefEqProofs only [getD_map_lt, ↓reduceIte, go_sem]
  refine ⟨fun hlt => ⟨fun he => ?_, fun hne => ⟨by simp only [InR]; omega, k + 1, by simp, ⟨hlt, fun j hj hjk => ?_⟩, by omega⟩⟩, fun hge => ?_⟩
  · rw [← he, ixL_at x ws 0 k hlt (fun j hj => h0 j (by omega) hj) he.symm]; simp
  · by_cases hjk' : j < k
    · exact h0 j hj hjk'
    · have : j = k := by omega
      subst this; exact fun e => hne e.symm
  · refine (ixL_none x ws 0 (fun hm => ?_)).symm
    obtain ⟨j, hj, e⟩ := List.getElem_of_mem hm
    exact h0 j hj (by omega) e

theorem t16 (ws : List (List UInt8)) (x : List UInt8) (hl : ws.length ≤ 9223372036854775807) : PFn Tryz.prog 176 [.sl (ws.map .str), .str x] [.bool (decide (x ∈ ws))] := by
  refine PFn.of_body hΓ Tryz.func176 (by kernel_rfl) rfl (AWp.of_awpD [] hΓ hmix (by kernel_rfl) ?_)
  simp +contextual -implicitDefEqProofs only [Tryz.ntmps176, Tryz.results176, Nat.reduceAdd, Nat.reduceSub, go_sem]
  refine callK_fn (t48 ws x hl) (.pures rfl) ?_
  simp -implicitDefEqProofs only [go_sem]
  exact ixL_mem x ws 0

theorem residL_len {q : Int} {ws : List (List UInt8)} (hv : Valid q ws) : (residL ws).length ≤ 2112 := by
  have h1 : residL ws ⊆ sufs ws := fun x hx => mem_sufs (reach_suffix (mem_residL.1 hx))
  have h2 := nodup_sub_lenW ((residL_strict ws).imp (fun h e => by subst e; exact ltW_irrefl _ h)) h1
  have h3 := sufs_len (ws := ws) (n := 32) (fun w hw => by
    obtain ⟨j, hj, rfl⟩ := List.getElem_of_mem hw
    have := hv.short j hj
    rwa [List.getD_eq_getElem?_getD, List.getElem?_eq_getElem hj, Option.getD_some] at this)
  have h4 : ws.length * (32 + 1) ≤ 64 * 33 := Nat.mul_le_mul_right _ hv.len
  omega

theorem t47 (q : Int) (ws : List (List UInt8)) (hv : Valid q ws) : PFn Tryz.prog 118 [codeV q ws] [.bool (!decide ([] ∈ residL ws))] := by
  have hr := residL_len hv
  refine PFn.of_body hΓ Tryz.func118 (by kernel_rfl) rfl (AWp.of_awpD [] hΓ hmix (by kernel_rfl) ?_)
  simp +contextual -implicitDefEqProofs only [codeV, Tryz.ntmps118, Tryz.results118, Nat.reduceAdd, Nat.reduceSub, go_sem]
  refine callK_fn (PFn.of_row (r46 q ws hv)) (.still rfl) ?_
  simp -implicitDefEqProofs only [go_sem]
  refine callK_fn (t16 (residL ws) [] (by omega)) (.pures rfl) ?_
  simp -implicitDefEqProofs only [go_sem]

theorem t15 (q : Int) (ws : List (List UInt8)) : PFn Tryz.prog 55 [codeV q ws] [.bool (if codeCheck q ws = 0 then !decide ([] ∈ residL ws) else false), .int .i64 (if codeCheck q ws = 0 then 0 else 1)] := by
  refine PFn.of_body hΓ Tryz.func55 (by kernel_rfl) rfl (AWp.of_awpD [] hΓ hmix (by kernel_rfl) ?_)
  simp +contextual -implicitDefEqProofs only [codeV, Tryz.ntmps55, Tryz.results55, Nat.reduceAdd, Nat.reduceSub, go_sem]
  refine callK_fn (t45 q ws) (.still rfl) ?_
  by_cases h : codeCheck q ws = 0
  · rw [h]
    simp -implicitDefEqProofs only [go_sem]
    refine callK_fn (t47 q ws (valid_of h)) (.still rfl) ?_
    simp -implicitDefEqProofs only [go_sem]
  · simp -implicitDefEqProofs only [h, go_sem]

end Go.Proofs.YtpljmccnfmkmfaaGreat.Dc
end

section
namespace Go.Proofs.YtpljmccnfmkmfaaGreat.Dc
open Go Go.AM
set_option maxRecDepth 100000
set_option linter.unusedSimpArgs false

theorem Valid.ne' {q : Int} {ws : List (List UInt8)} (hv : Valid q ws) : ∀ x ∈ ws, x ≠ [] := fun x hx => by
  obtain ⟨j, hj, rfl⟩ := List.getElem_of_mem hx
  have := hv.ne j hj
  rwa [List.getD_eq_getElem?_getD, List.getElem?_eq_getElem hj, Option.getD_some] at this
theorem Valid.amb {q : Int} {ws : List (List UInt8)} (hv : Valid q ws) : [] ∈ residL ws ↔ Amb ws := mem_residL.trans (amb_iff hv.ne' (distinct_idx hv))

end Go.Proofs.YtpljmccnfmkmfaaGreat.Dc
end

section
namespace Go.Proofs.YtpljmccnfmkmfaaGreat
open Go Go.AM
set_option maxRecDepth 1000000

theorem c57r (n d : Nat) (hn0 : 1 ≤ n) (hn : n ≤ 9) (hd : n + 1 ≤ d) (hd2 : d ≤ n + 18) : PFn Tryz.prog 57 [.int .i64 n, .int .i64 d] [Kn.ratV n d] := by
  obtain ⟨k, rfl⟩ : ∃ k, d = n + k + 1 := ⟨d - n - 1, by omega⟩
  have hk : k ∈ List.range 18 := List.mem_range.2 (by omega)
  have hc : n = 1 ∨ n = 2 ∨ n = 3 ∨ n = 4 ∨ n = 5 ∨ n = 6 ∨ n = 7 ∨ n = 8 ∨ n = 9 := by omega
  rcases hc with rfl | rfl | rfl | rfl | rfl | rfl | rfl | rfl | rfl
  · exact rat_of (by omega) (by omega) (List.all_eq_true.1 ratB1 k hk)
  · exact rat_of (by omega) (by omega) (List.all_eq_true.1 ratB2 k hk)
  · exact rat_of (by omega) (by omega) (List.all_eq_true.1 ratB3 k hk)
  · exact rat_of (by omega) (by omega) (List.all_eq_true.1 ratB4 k hk)
  · exact rat_of (by omega) (by omega) (List.all_eq_true.1 ratB5 k hk)
  · exact rat_of (by omega) (by omega) (List.all_eq_true.1 ratB6 k hk)
  · exact rat_of (by omega) (by omega) (List.all_eq_true.1 ratB7 k hk)
  · exact rat_of (by omega) (by omega) (List.all_eq_true.1 ratB8 k hk)
  · exact rat_of (by omega) (by omega) (List.all_eq_true.1 ratB9 k hk)
theorem c57z : PFn Tryz.prog 57 [.int .i64 0, .int .i64 1] [Kn.ratV 0 1] := rat_of (n := 0) (d := 1) (by omega) (by omega) ratA0
theorem c57o : PFn Tryz.prog 57 [.int .i64 1, .int .i64 1] [Kn.ratV 1 1] := rat_of (n := 1) (d := 1) (by omega) (by omega) ratA1
theorem d55 (q : Int) (ws : List (List UInt8)) (hc : codeCheck q ws = 0) : ∃ is : Bool, PFn Tryz.prog 55 [codeV q ws] [.bool is, .int .i64 0] ∧ (is = true → Mc.UD ws) := by
  have e := Dc.t15 q ws
  rw [if_pos hc, if_pos hc] at e
  refine ⟨_, e, fun h => ?_⟩
  have hv := Dc.valid_of hc
  have hn : [] ∉ Dc.residL ws := by simpa using h
  exact fun a b ha hb hf => Classical.byContradiction fun hne => hn (hv.amb.2 ⟨a, b, ha, hb, hne, hf⟩)
theorem b9 (q : Int) (ws : List (List UInt8)) (pk : List UInt8) (hws : ws.length ≤ 9223372036854775807) (hpk : pk.length ≤ 9223372036854775807) : PFn Tryz.prog 9 [codeV q ws, .sl (pk.map u8V)] [.bool true] :=
  b9h q ws pk hws hpk c57r c57o c57z d55
end Go.Proofs.YtpljmccnfmkmfaaGreat
end

