/-
  The program's CheckProof.
-/
import Derived.Test.YtpancbdaigaheaaGf
namespace Go.Proofs.Ytpancbdaigaheaa
open Go Go.AM
set_option maxRecDepth 100000
set_option linter.unusedSimpArgs false

/-! A map to bools, all true: a set of words, in the order of their coming. -/
def entT (k : List UInt8) : List UInt8 × PV := (k, .bool true)
def addK (ks : List (List UInt8)) (k : List UInt8) : List (List UInt8) := if k ∈ ks then ks else ks ++ [k]
def keysOf (l : List (List UInt8)) : List (List UInt8) := l.foldl addK []
def setM (l : List (List UInt8)) : List (List UInt8 × PV) := (keysOf l).map entT

theorem midx_set (k : List UInt8) : ∀ ks : List (List UInt8), (k ∉ ks → midx k (ks.map entT) = none) ∧ (k ∈ ks → ∃ j, midx k (ks.map entT) = some j ∧ ∃ h : j < ks.length, ks[j] = k)
  | [] => ⟨fun _ => rfl, fun h => by cases h⟩
  | a :: ks => by
    obtain ⟨h1, h2⟩ := midx_set k ks
    constructor
    · intro h
      simp only [List.mem_cons, not_or] at h
      rw [List.map_cons]; unfold midx; rw [if_neg (show ¬ k = (entT a).1 from h.1)]
      rw [h1 h.2]; rfl
    · intro h
      by_cases e : k = a
      · exact ⟨0, by simp [midx, entT, e], by simp, e.symm⟩
      · simp only [List.mem_cons, e, false_or] at h
        obtain ⟨j, h3, h4, h5⟩ := h2 h
        refine ⟨j + 1, ?_, by simpa using h4, by simpa using h5⟩
        rw [List.map_cons]; unfold midx; rw [if_neg (show ¬ k = (entT a).1 from e)]
        rw [h3]; rfl
theorem mset_set (k : List UInt8) (ks : List (List UInt8)) : mset k (.bool true) (ks.map entT) = (addK ks k).map entT := by
  unfold mset addK
  by_cases h : k ∈ ks
  · obtain ⟨j, h1, h2, h3⟩ := (midx_set k ks).2 h
    rw [h1, if_pos h]
    apply List.ext_getElem (by simp)
    intro i hi _
    simp only [List.getElem_set, List.getElem_map]
    split
    · subst_vars; rfl
    · rfl
  · rw [(midx_set k ks).1 h, if_neg h]; simp [entT]
theorem mget_set (k : List UInt8) (ks : List (List UInt8)) : (mget k (ks.map entT)).getD (.bool false) = .bool (decide (k ∈ ks)) := by
  unfold mget
  by_cases h : k ∈ ks
  · obtain ⟨j, h1, h2, h3⟩ := (midx_set k ks).2 h
    rw [h1, decide_eq_true h]
    simp only [Option.map_some, Option.getD_some, List.getD_eq_getElem?_getD, List.getElem?_map, List.getElem?_eq_getElem h2, entT]
  · rw [(midx_set k ks).1 h, decide_eq_false h]; rfl
theorem keysOf_snoc (l : List (List UInt8)) (k : List UInt8) : keysOf (l ++ [k]) = addK (keysOf l) k := by unfold keysOf; rw [List.foldl_append]; rfl
theorem mem_foldK (k : List UInt8) : ∀ (l acc : List (List UInt8)), k ∈ l.foldl addK acc ↔ k ∈ acc ∨ k ∈ l
  | [], acc => by simp
  | a :: l, acc => by
    rw [List.foldl_cons, mem_foldK k l]
    unfold addK
    split
    · rename_i h
      simp only [List.mem_cons]
      exact ⟨fun h' => h'.elim .inl (fun h => .inr (.inr h)), fun h' => h'.elim .inl (fun h' => h'.elim (fun e => .inl (e ▸ h)) .inr)⟩
    · simp only [List.mem_append, List.mem_cons, List.not_mem_nil, or_false, or_assoc]
theorem mem_keysOf (l : List (List UInt8)) (k : List UInt8) : k ∈ keysOf l ↔ k ∈ l := by unfold keysOf; rw [mem_foldK]; simp
theorem len_foldK : ∀ (l acc : List (List UInt8)), (l.foldl addK acc).length ≤ acc.length + l.length
  | [], acc => by simp
  | a :: l, acc => by
    rw [List.foldl_cons]
    have h1 := len_foldK l (addK acc a)
    have h2 : (addK acc a).length ≤ acc.length + 1 := by unfold addK; split <;> simp
    simp only [List.length_cons]; omega
theorem keysOf_len (l : List (List UInt8)) : (keysOf l).length ≤ l.length := by have := len_foldK l []; simpa [keysOf] using this
theorem setM_snoc (l : List (List UInt8)) (k : List UInt8) : mset k (.bool true) (setM l) = setM (l ++ [k]) := by unfold setM; rw [mset_set, keysOf_snoc]
theorem setM_get (l : List (List UInt8)) (k : List UInt8) : (mget k (setM l)).getD (.bool false) = .bool (decide (k ∈ l)) := by
  unfold setM; rw [mget_set]; simp only [mem_keysOf]

theorem c52 {h : List AObj} (q : Int) (ws : List (List UInt8)) : AC Try.prog 52 [.agg [.p (.int .i64 q), .p (.sl (ws.map .str))]] h [] (fun v h' => v = .fn 86 [.ptr h.length 0] ∧ h' = h ++ [codeB q ws]) := by
  refine AC.of_bodyE hΓ Try.func52 (by kernel_rfl) rfl (AWp.mono (Q := fun e st => AM.Ends e ∧ st.tmps.getD 2 .junk = .fn 86 [.ptr h.length 0] ∧ st.h = h ++ [codeB q ws]) ?_ ?_)
  rotate_left
  · rintro e ⟨tm, h'⟩ ⟨he, h1, h2⟩
    simp only at h1 h2
    subst h2
    refine ⟨he, _, Less.refl _, ?_⟩
    unfold DoneE
    simp +contextual -implicitDefEqProofs only [Try.results52, h1, go_sem]
    exact ⟨h.length + 1, by omega, .inl (by simp), List.take_of_length_le (by simp)⟩
  refine AWp.of_awpD [] hΓ hmix (by kernel_rfl) ?_
  simp +contextual -implicitDefEqProofs only [Try.ntmps52, Nat.reduceAdd, Nat.reduceSub, codeB, go_sem]

theorem c53 {h : List AObj} (q : Int) (ws : List (List UInt8)) (r : List UInt8) : AC Try.prog 53 [.agg [.p (.int .i64 q), .p (.sl (ws.map .str))], .p (.str r)] h []
    (fun v h' => v = .fn 87 [.ptr h.length 0, .ptr (h.length + 1) 0] ∧ h' = h ++ [codeB q ws, .box [.p (.str r)]]) := by
  refine AC.of_bodyE hΓ Try.func53 (by kernel_rfl) rfl (AWp.mono (Q := fun e st => AM.Ends e ∧ st.tmps.getD 4 .junk = .fn 87 [.ptr h.length 0, .ptr (h.length + 1) 0] ∧ st.h = h ++ [codeB q ws, .box [.p (.str r)]]) ?_ ?_)
  rotate_left
  · rintro e ⟨tm, h'⟩ ⟨he, h1, h2⟩
    simp only at h1 h2
    subst h2
    refine ⟨he, _, Less.refl _, ?_⟩
    unfold DoneE
    simp +contextual -implicitDefEqProofs only [Try.results53, h1, go_sem]
    exact ⟨h.length + 2, by omega, .inl (by simp), List.take_of_length_le (by simp)⟩
  refine AWp.of_awpD [] hΓ hmix (by kernel_rfl) ?_
  simp +contextual -implicitDefEqProofs only [Try.ntmps53, Nat.reduceAdd, Nat.reduceSub, codeB, List.length_append, List.append_assoc, go_sem]

/-- A loop over firsts whose rounds only look: it is left at the first pair that will not do. -/
theorem range86 {E : Env} (hP : E.P = Try.prog) {tm : List AV} {h HD : List AObj} {Q : Exit → St → Prop} {f : Operand} {ps : List Nat} {assign body : Code} {c : Nat} (q : Int) (ws : List (List UInt8)) (hws : ws.length ≤ 1000)
    (ok : List UInt8 × List UInt8 → Prop) (hf : ev tm f = .fn 86 [.ptr c 0]) (hc : h[c]? = some (codeB q ws)) (hlen : HD.length = h.length)
    (hround : ∀ p ∈ pairs ws, YC Try.prog h.length [.p (.str p.1), .p (.str p.2)] (h ++ [.lp tm ps assign body .ready]) []
      (fun v h'' => (v = .p (.bool true) ∧ ok p ∧ h'' = h ++ [.lp tm ps assign body .ready]) ∨ (v = .p (.bool false) ∧ ¬ ok p ∧ h'' = HD ++ [.lp tm ps assign body (.left .ret)])))
    (h1 : (∀ p ∈ pairs ws, ok p) → Q .normal ⟨tm, h ++ [.dead]⟩) (h2 : (∃ p ∈ pairs ws, ¬ ok p) → Q .ret ⟨tm, HD ++ [.dead]⟩) : AWp E none (.rangeFunc f ps.toArray assign body) Q ⟨tm, h⟩ := by
  have hcl : c < h.length := (List.getElem?_eq_some_iff.1 hc).1
  have hac : AC Try.prog 86 [.yld h.length, .ptr c 0] (h ++ [.lp tm ps assign body .ready]) [] (fun _ h' => (h' = h ++ [.lp tm ps assign body .ready] ∧ ∀ p ∈ pairs ws, ok p) ∨ (h' = HD ++ [.lp tm ps assign body (.left .ret)] ∧ ∃ p ∈ pairs ws, ¬ ok p)) := by
    refine c86 (ks := []) (by simp) (by simp) q ws hws (J := fun done h' => h' = h ++ [.lp tm ps assign body .ready] ∧ ∀ p ∈ done, ok p) (D := fun h' => h' = HD ++ [.lp tm ps assign body (.left .ret)] ∧ ∃ p ∈ pairs ws, ¬ ok p) ⟨rfl, by simp⟩ ?_ ?_ ?_
    · rintro done h' ⟨rfl, _⟩
      exact ⟨by rw [List.getElem?_append_left hcl]; exact hc, Nat.le_refl _⟩
    · rintro h' ⟨rfl, _⟩; simp [hlen]
    · rintro done y r h' ⟨l, hl⟩ ⟨rfl, hdone⟩
      have hm : (y, r) ∈ pairs ws := by rw [← hl]; simp
      obtain hy := hround _ hm
      intro X I μ ob w cargs R hl2 ha hk
      obtain ⟨l', fn, tmps, a', b', e1, e2, e3⟩ := hy X I μ ob w cargs R hl2 ha hk
      refine ⟨l', fn, tmps, a', b', e1, e2, ?_⟩
      refine e3.mono ?_
      rintro e w' ⟨cv, v, h', I', μ', ob', g1, g2, g3, g4, g5, g6, g7, g8, g9, g10⟩
      refine ⟨cv, v, h', I', μ', ob', g1, g2, g3, g4, g5, g6, g7, g8, g9, ?_⟩
      rcases g10 with ⟨k1, k2, k3⟩ | ⟨k1, k2, k3⟩
      · exact .inl ⟨k1, k3, fun p hp => by
          rcases List.mem_append.1 hp with hp | hp
          · exact hdone p hp
          · simp only [List.mem_singleton] at hp; subst hp; exact k2⟩
      · exact .inr ⟨k1, k3, _, hm, k2⟩
  obtain ⟨P, Γ', n0, ks⟩ := E
  simp only at hP; subst hP
  refine AWp.rangeFunc hf hac (by simp) (by simp) ?_
  rintro v h' (⟨rfl, hok⟩ | ⟨rfl, hbad⟩)
  · have := h1 hok
    unfold RangeK
    simpa [killAll] using this
  · have := h2 hbad
    unfold RangeK
    rw [← hlen]
    simpa [killAll] using this

/-- A loop over nexts whose rounds only look: it is left at the first one that will not do. -/
theorem range87 {E : Env} (hP : E.P = Try.prog) {tm : List AV} {h HD : List AObj} {Q : Exit → St → Prop} {f : Operand} {ps : List Nat} {assign body : Code} {c d : Nat} (q : Int) (ws : List (List UInt8)) (r : List UInt8) (hws : ws.length ≤ 1000)
    (ok : List UInt8 × Nat → Prop) (hf : ev tm f = .fn 87 [.ptr c 0, .ptr d 0]) (hc : h[c]? = some (codeB q ws)) (hd : h[d]? = some (.box [.p (.str r)])) (hlen : HD.length = h.length)
    (hround : ∀ p ∈ nextsP ws r, YC Try.prog h.length [.p (.str p.1), .p (.int .i64 (p.2 : Nat))] (h ++ [.lp tm ps assign body .ready]) []
      (fun v h'' => (v = .p (.bool true) ∧ ok p ∧ h'' = h ++ [.lp tm ps assign body .ready]) ∨ (v = .p (.bool false) ∧ ¬ ok p ∧ h'' = HD ++ [.lp tm ps assign body (.left .ret)])))
    (h1 : (∀ p ∈ nextsP ws r, ok p) → Q .normal ⟨tm, h ++ [.dead]⟩) (h2 : (∃ p ∈ nextsP ws r, ¬ ok p) → Q .ret ⟨tm, HD ++ [.dead]⟩) : AWp E none (.rangeFunc f ps.toArray assign body) Q ⟨tm, h⟩ := by
  have hcl : c < h.length := (List.getElem?_eq_some_iff.1 hc).1
  have hdl : d < h.length := (List.getElem?_eq_some_iff.1 hd).1
  have hac : AC Try.prog 87 [.yld h.length, .ptr c 0, .ptr d 0] (h ++ [.lp tm ps assign body .ready]) [] (fun _ h' => (h' = h ++ [.lp tm ps assign body .ready] ∧ ∀ p ∈ nextsP ws r, ok p) ∨ (h' = HD ++ [.lp tm ps assign body (.left .ret)] ∧ ∃ p ∈ nextsP ws r, ¬ ok p)) := by
    refine c87 (ks := []) (by simp) (by simp) (by simp) q ws r hws (J := fun done h' => h' = h ++ [.lp tm ps assign body .ready] ∧ ∀ p ∈ done, ok p) (D := fun h' => h' = HD ++ [.lp tm ps assign body (.left .ret)] ∧ ∃ p ∈ nextsP ws r, ¬ ok p) ⟨rfl, by simp⟩ ?_ ?_ ?_
    · rintro done h' ⟨rfl, _⟩
      exact ⟨by rw [List.getElem?_append_left hcl]; exact hc, by rw [List.getElem?_append_left hdl]; exact hd, Nat.le_refl _⟩
    · rintro h' ⟨rfl, _⟩; simp [hlen]
    · rintro done u n h' ⟨l, hl⟩ ⟨rfl, hdone⟩
      have hm : (u, n) ∈ nextsP ws r := by rw [← hl]; simp
      obtain hy := hround _ hm
      intro X I μ ob w cargs R hl2 ha hk
      obtain ⟨l', fn, tmps, a', b', e1, e2, e3⟩ := hy X I μ ob w cargs R hl2 ha hk
      refine ⟨l', fn, tmps, a', b', e1, e2, ?_⟩
      refine e3.mono ?_
      rintro e w' ⟨cv, v, h', I', μ', ob', g1, g2, g3, g4, g5, g6, g7, g8, g9, g10⟩
      refine ⟨cv, v, h', I', μ', ob', g1, g2, g3, g4, g5, g6, g7, g8, g9, ?_⟩
      rcases g10 with ⟨k1, k2, k3⟩ | ⟨k1, k2, k3⟩
      · exact .inl ⟨k1, k3, fun p hp => by
          rcases List.mem_append.1 hp with hp | hp
          · exact hdone p hp
          · simp only [List.mem_singleton] at hp; subst hp; exact k2⟩
      · exact .inr ⟨k1, k3, _, hm, k2⟩
  obtain ⟨P, Γ', n0, ks⟩ := E
  simp only at hP; subst hP
  refine AWp.rangeFunc hf hac (by simp) (by simp) ?_
  rintro v h' (⟨rfl, hok⟩ | ⟨rfl, hbad⟩)
  · have := h1 hok
    unfold RangeK
    simpa [killAll] using this
  · have := h2 hbad
    unfold RangeK
    rw [← hlen]
    simpa [killAll] using this


theorem weakH_dead : ∀ h : List AObj, weakH h (List.replicate h.length .dead)
  | [] => trivial
  | _ :: h => ⟨.inl rfl, weakH_dead h⟩

theorem nodup_sub_len : ∀ {l m : List Nat}, l.Nodup → l ⊆ m → l.length ≤ m.length
  | [], _, _, _ => Nat.zero_le _
  | a :: l, m, h, hs => by
    obtain ⟨h1, h2⟩ := List.nodup_cons.1 h
    have ha : a ∈ m := hs (by simp)
    have := nodup_sub_len (m := m.erase a) h2 (fun x hx => (List.mem_erase_of_ne (fun e : x = a => h1 (e ▸ hx))).2 (hs (by simp [hx])))
    rw [List.length_erase_of_mem ha] at this
    have := List.length_pos_of_mem ha
    simp only [List.length_cons]; omega

/-! ### The order of words -/
def ltW (a b : List UInt8) : Prop := a.length < b.length ∨ (a.length = b.length ∧ bLt a b = true)
theorem bLt_cons (x y : UInt8) (a b : List UInt8) : bLt (x :: a) (y :: b) = true ↔ x.toNat < y.toNat ∨ (x.toNat = y.toNat ∧ bLt a b = true) := by
  have e : bLt (x :: a) (y :: b) = (match Nat.blt x.toNat y.toNat with | true => true | false => (match Nat.beq x.toNat y.toNat with | true => bLt a b | false => false)) := rfl
  rw [e]
  cases h1 : Nat.blt x.toNat y.toNat
  · have h2 : ¬ x.toNat < y.toNat := fun h => by rw [(Nat.blt_eq (x := x.toNat)).symm.mp h] at h1; cases h1
    cases h3 : Nat.beq x.toNat y.toNat
    · have : ¬ x.toNat = y.toNat := fun h => by rw [h] at h3; simp at h3
      simp [h2, this]
    · have := Nat.eq_of_beq_eq_true h3
      simp [h2, this]
  · have := (Nat.blt_eq (x := x.toNat)).mp h1
    simp [this]
theorem bLt_trans : ∀ {a b c : List UInt8}, bLt a b = true → bLt b c = true → bLt a c = true
  | a, [], c, h, _ => by cases a <;> cases h
  | [], _ :: _, [], _, h => by cases h
  | [], _ :: _, _ :: _, _, _ => rfl
  | x :: a, y :: b, [], _, h => by cases h
  | x :: a, y :: b, z :: c, h1, h2 => by
    rw [bLt_cons] at h1 h2 ⊢
    rcases h1 with h1 | ⟨h1, h3⟩
    · rcases h2 with h2 | ⟨h2, _⟩
      · exact .inl (by omega)
      · exact .inl (by omega)
    · rcases h2 with h2 | ⟨h2, h4⟩
      · exact .inl (by omega)
      · exact .inr ⟨by omega, bLt_trans h3 h4⟩
theorem bLt_irrefl : ∀ a : List UInt8, bLt a a = false
  | [] => rfl
  | x :: a => by
    rw [Bool.eq_false_iff]
    intro h
    rw [bLt_cons] at h
    rcases h with h | ⟨_, h⟩
    · omega
    · rw [bLt_irrefl a] at h; cases h
theorem ltW_iff (a b : List UInt8) : cmpW a b < 0 ↔ ltW a b := by
  unfold cmpW ltW
  by_cases h1 : a.length < b.length
  · rw [if_pos h1]; simp [h1]
  · by_cases h2 : b.length < a.length
    · rw [if_neg h1, if_pos h2]; simp [h1]; omega
    · rw [if_neg h1, if_neg h2]
      have h3 : a.length = b.length := by omega
      unfold cmpB
      cases bLt a b
      · cases bEq a b <;> simp [h1]
      · simp [h3]
theorem ltW_trans {a b c : List UInt8} (h1 : ltW a b) (h2 : ltW b c) : ltW a c := by
  rcases h1 with h1 | ⟨h1, h3⟩ <;> rcases h2 with h2 | ⟨h2, h4⟩
  · exact .inl (by omega)
  · exact .inl (by omega)
  · exact .inl (by omega)
  · exact .inr ⟨by omega, bLt_trans h3 h4⟩
theorem ltW_irrefl (a : List UInt8) : ¬ ltW a a := by
  rintro (h | ⟨_, h⟩)
  · omega
  · rw [bLt_irrefl] at h; cases h

theorem firstNZ_zero {l : List Int} (h : firstNZ l = 0) : ∀ x ∈ l, x = 0 := by
  intro x hx
  unfold firstNZ at h
  cases hf : l.find? (fun x => decide (x ≠ 0)) with
  | none => simpa using List.find?_eq_none.1 hf x hx
  | some y =>
    have h1 := List.find?_some hf
    rw [hf] at h
    simp only [decide_eq_true_eq] at h1
    exact absurd h h1

/-- What a valid code is. -/
structure Valid (q : Int) (ws : List (List UInt8)) : Prop where
  q2 : 2 ≤ q
  q16 : q ≤ 16
  pos : 0 < ws.length
  len : ws.length ≤ 64
  ne : ∀ i, i < ws.length → ws.getD i [] ≠ []
  short : ∀ i, i < ws.length → (ws.getD i []).length ≤ 32
  word : ∀ i, i < ws.length → wordCheck q (ws.getD i []) = 0
  lt : ∀ i j, i < j → j < ws.length → ltW (ws.getD i []) (ws.getD j [])

theorem valid_of {q : Int} {ws : List (List UInt8)} (h : codeCheck q ws = 0) : Valid q ws := by
  unfold codeCheck at h
  split at h
  · omega
  rename_i h1
  split at h
  · omega
  rename_i h2
  split at h
  · omega
  rename_i h3
  have h4 : ∀ i, i < ws.length → wordErr q ws i = 0 := fun i hi => firstNZ_zero h _ (List.mem_map.2 ⟨i, List.mem_range.2 hi, rfl⟩)
  have h5 : ∀ i, i < ws.length → ws.getD i [] ≠ [] ∧ ¬ 32 < (ws.getD i []).length ∧ wordCheck q (ws.getD i []) = 0 ∧ ¬ (0 < i ∧ 0 ≤ cmpW (ws.getD (i - 1) []) (ws.getD i [])) := fun i hi => by
    have := h4 i hi
    unfold wordErr at this
    simp only at this
    split at this
    · omega
    rename_i g1
    split at this
    · omega
    rename_i g2
    split at this
    · omega
    rename_i g3
    split at this
    · omega
    rename_i g4
    exact ⟨g1, g2, by omega, g4⟩
  have step : ∀ i, i + 1 < ws.length → ltW (ws.getD i []) (ws.getD (i + 1) []) := fun i hi => by
    have := (h5 (i + 1) hi).2.2.2
    rw [← ltW_iff]
    simp only [Nat.add_sub_cancel] at this
    omega
  refine ⟨by omega, by omega, by omega, by omega, fun i hi => (h5 i hi).1, fun i hi => by have := (h5 i hi).2.1; omega, fun i hi => (h5 i hi).2.2.1, ?_⟩
  intro i j hij hj
  obtain ⟨d, rfl⟩ : ∃ d, j = i + 1 + d := ⟨j - i - 1, by omega⟩
  clear hij
  induction d with
  | zero => exact step i hj
  | succ d ih => exact ltW_trans (ih (by omega)) (step (i + 1 + d) hj)

theorem distinct_of {q : Int} {ws : List (List UInt8)} (h : codeCheck q ws = 0) : ∀ i j, i < ws.length → j < ws.length → ws.getD i [] = ws.getD j [] → i = j := by
  intro i j hi hj e
  have v := (valid_of h).lt
  rcases Nat.lt_trichotomy i j with h1 | h1 | h1
  · exact absurd (e ▸ v i j h1 hj) (ltW_irrefl _)
  · exact h1
  · exact absurd (e ▸ v j i h1 hi) (ltW_irrefl _)

/-- The seconds of the pairs are the reference's first rests, if the words are different. -/
theorem pairs_first {ws : List (List UInt8)} (hd : ∀ i j, i < ws.length → j < ws.length → ws.getD i [] = ws.getD j [] → i = j) (l : List (List UInt8)) : (∀ p ∈ pairs ws, p.2 ∈ l) ↔ ∀ u ∈ firstS ws, u ∈ l := by
  have get : ∀ i, i < ws.length → ∀ (h : i < ws.length), ws.getD i [] = ws[i] := fun i hi h => by rw [List.getD_eq_getElem?_getD, List.getElem?_eq_getElem h, Option.getD_some]
  constructor
  · intro h u hu
    unfold firstS firstN restsOf at hu
    obtain ⟨i, hi, hu⟩ := List.mem_flatMap.1 hu
    obtain ⟨k, hk, hu⟩ := List.mem_flatMap.1 hu
    have hi := List.mem_range.1 hi
    have hk := List.mem_range.1 hk
    unfold restAt at hu
    split at hu
    · rename_i hc
      simp only [List.mem_singleton] at hu; subst hu
      refine h (ws.getD i [], _) ?_
      unfold pairs pairsN pairsK
      refine List.mem_flatMap.2 ⟨k, List.mem_range.2 hk, List.mem_flatMap.2 ⟨ws.getD i [], ?_, ?_⟩⟩
      · rw [List.take_length, get i hi hi]; exact List.getElem_mem hi
      · unfold pairAt
        have hne : List.drop (ws.getD k []).length (ws.getD i []) ≠ [] := fun e => by
          refine hc.1 (hd i k hi hk ?_)
          have h1 := List.isPrefixOf_iff_prefix.1 hc.2
          obtain ⟨t, ht⟩ := h1
          have : t = [] := by rw [← ht] at e; simpa using e
          rw [this, List.append_nil] at ht; exact ht.symm
        rw [if_pos ⟨hc.2, hne⟩]
        exact List.mem_singleton.2 rfl
    · cases hu
  · intro h p hp
    unfold pairs pairsN pairsK at hp
    obtain ⟨k, hk, hp⟩ := List.mem_flatMap.1 hp
    obtain ⟨y, hy, hp⟩ := List.mem_flatMap.1 hp
    have hk := List.mem_range.1 hk
    rw [List.take_length] at hy
    obtain ⟨i, hi, rfl⟩ := List.getElem_of_mem hy
    unfold pairAt at hp
    split at hp
    · rename_i hc
      simp only [List.mem_singleton] at hp; subst hp
      refine h _ ?_
      unfold firstS firstN restsOf
      refine List.mem_flatMap.2 ⟨i, List.mem_range.2 hi, List.mem_flatMap.2 ⟨k, List.mem_range.2 hk, ?_⟩⟩
      unfold restAt
      have hne : i ≠ k := fun e => hc.2 (by subst e; rw [get i hi hi]; simp)
      rw [get i hi hi, if_pos ⟨hne, hc.1⟩]
      exact List.mem_singleton.2 rfl
    · cases hp
theorem nexts_next {ws : List (List UInt8)} (r : List UInt8) (l : List (List UInt8)) : (∀ p ∈ nextsP ws r, p.1 ∈ l) ↔ ∀ u ∈ nextS ws r, u ∈ l := by
  have e : nextS ws r = (nextsP ws r).map (·.1) := by
    unfold nextS nextsP
    rw [List.map_flatMap]
    congr 1; funext x
    unfold nextAt nextP
    split
    · rfl
    · split <;> rfl
  rw [e]
  simp only [List.mem_map]
  exact ⟨fun h u ⟨p, hp, e⟩ => e ▸ h p hp, fun h p hp => h _ ⟨p, hp, rfl⟩⟩

theorem t23 (q : Int) (ws l : List (List UInt8)) (hl : l.length ≤ 1000) : PFn Try.prog 23 [codeV q ws, .sl (l.map .str)] [.int .i64 (proofCheck q ws l)] := by
  refine PFn.of_body hΓ Try.func23 (by kernel_rfl) rfl (AWp.of_awpD [] hΓ hmix (by kernel_rfl) ?_)
  simp +contextual -implicitDefEqProofs only [codeV, Try.ntmps23, Try.results23, Nat.reduceAdd, Nat.reduceSub, go_sem]
  refine callK_fn (t45 q ws) (.still rfl) ?_
  by_cases h : codeCheck q ws = 0
  rotate_left
  · simp -implicitDefEqProofs only [h, go_sem]
    unfold proofCheck; rw [if_pos h]
  have hw : ws.length ≤ 64 := by
    unfold codeCheck at h
    split at h
    · omega
    · split at h
      · omega
      · split at h
        · omega
        · omega
  rw [h]
  simp -implicitDefEqProofs only [go_sem]
  have h1' : ¬ 65536 < l.length := by omega
  have h1 : ¬ 65536 < (l.length : Int) := by omega
  refine ⟨fun h => absurd h h1, fun _ => ?_⟩
  refine AWp.loopI (fun k : Nat => ⟨mkF 55 [(1, .p (.sl (l.map .str))), (2, .ptr 0 0), (4, .ptr 1 0), (5, .ptr 3 0), (21, .p (.sl (l.map .str))), (22, .p (.int .i64 l.length)), (23, .p (.int .i64 k))],
      [codeB q ws, .box [.p (.int .i64 0)], .mp (setM (l.take k)), .box [.map 2]]⟩)
    (fun k => k ≤ l.length) (fun k => l.length - k) 0 (by simp [go_sem, codeB, setM, keysOf]) (by simp) ?_
  rintro k hk
  refine AWp.of_awpD [] hΓ hmix (by kernel_rfl) ?_
  simp +contextual -implicitDefEqProofs only [getD_map_lt, ↓reduceIte, codeB, setM_snoc, setM_get, go_sem]
  refine ⟨fun hlt => ⟨by simp only [InR]; omega, k + 1, ⟨by simp, by rw [List.take_succ_eq_append_getElem hlt]⟩, hlt, by omega⟩, fun hge => ?_⟩
  have hkl : k = l.length := by omega
  subst hkl
  rw [List.take_length]
  refine ⟨fun he => (proofCheck_23 h h1' (fun e => e.1 he)).symm, fun hne => ?_⟩
  refine callK_ac (c52 q ws) (by simp) ?_
  rintro v h' ⟨rfl, rfl⟩
  simp +contextual -implicitDefEqProofs only [killAll, List.foldl, codeB, go_sem]
  refine range86 rfl q ws (by omega) (fun p => p.2 ∈ l) (c := 4) (HD := [codeB q ws, .box [.p (.int .i64 23)], .mp (setM l), .box [.map 2], codeB q ws]) rfl rfl rfl ?_ ?_ ?_
  · intro p hp
    refine YC.of_body (Γ := Γ) rfl rfl (by simp) ?_
    intro r
    refine AWp.of_awpD [] hΓ hmix (by kernel_rfl) ?_
    simp +contextual -implicitDefEqProofs only [setP, List.cons_append, List.nil_append, go_sem]
    unfold BeginE
    refine ⟨rfl, ?_⟩
    simp +contextual -implicitDefEqProofs only [List.length_cons, List.length_nil, List.cons_append, List.nil_append, go_sem]
    refine AWp.of_awpD [] hΓ hmix (by kernel_rfl) ?_
    simp +contextual -implicitDefEqProofs only [setM_get, go_sem]
    exact ⟨fun hm => ⟨6, by simp, .inl rfl, .inl ⟨rfl, rfl⟩⟩, fun hm => ⟨6, by simp, .inl rfl, .inr ⟨rfl, rfl⟩⟩⟩
  · intro hall
    simp +contextual -implicitDefEqProofs only [List.cons_append, List.nil_append, codeB, go_sem]
    refine ⟨⟨_, _, rfl, rfl⟩, ?_⟩
    have hes : ∀ i, i < (setM l).length → ∃ hi : i < (keysOf l).length, ((setM l).getD i default).1 = (keysOf l)[i] ∧ (keysOf l)[i] ∈ l := fun i hi => by
      have hi' : i < (keysOf l).length := by simpa [setM] using hi
      exact ⟨hi', by unfold setM; rw [List.getD_eq_getElem?_getD, List.getElem?_map, List.getElem?_eq_getElem hi']; rfl, (mem_keysOf l _).1 (List.getElem_mem hi')⟩
    refine AWp.loopI (fun p : List Nat × Nat => ⟨mkF 55 [(1, .p (.sl (l.map .str))), (2, .ptr 0 0), (4, .ptr 1 0), (5, .ptr 3 0), (41, .ptr 6 0)],
        codeB q ws :: .box [.p (.int .i64 0)] :: .mp (setM l) :: .box [.map 2] :: .dead :: .dead :: .it 2 (setM l).length p.1 (setM l).length :: List.replicate p.2 .dead⟩)
      (fun p => p.1.Nodup ∧ (∀ i ∈ p.1, i < (setM l).length) ∧ ∀ i ∈ p.1, ∀ u ∈ nextS ws ((setM l).getD i default).1, u ∈ l) (fun p => (setM l).length - p.1.length) ([], 0) (by simp [go_sem, codeB]) ⟨List.nodup_nil, by simp, by simp⟩ ?_
    rintro ⟨seen, m⟩ ⟨hnd, hlt, hok⟩
    simp only at hnd hlt hok
    refine AWp.of_awpD [] hΓ hmix (by kernel_rfl) ?_
    simp +contextual -implicitDefEqProofs only [nxtK, getD_map_lt, ↓reduceIte, codeB, go_sem]
    refine ⟨fun hall2 => ?_, fun i hi hni => ?_⟩
    · refine (proofCheck_0 h h1' hne ?_).symm
      unfold needN
      rw [List.take_length]
      intro u hu
      rcases List.mem_append.1 hu with hu | hu
      · exact (pairs_first (distinct_of h) l).1 hall u hu
      · obtain ⟨r, hr, hu⟩ := List.mem_flatMap.1 hu
        obtain ⟨i, hi, rfl⟩ := List.getElem_of_mem ((mem_keysOf l r).2 hr)
        have hi2 : i < (setM l).length := by simpa [setM] using hi
        obtain ⟨hi', e1, _⟩ := hes i hi2
        exact hok i (hall2 i hi2) u (by rw [e1]; exact hu)
    · obtain ⟨hi', e1, hmem⟩ := hes i hi
      generalize hT : List.replicate m AObj.dead = T
      simp +contextual -implicitDefEqProofs only [entK, List.getLast?_concat, hi, e1, ↓reduceIte, codeB, go_sem]
      refine callK_ac (c53 q ws (keysOf l)[i]) (by simp) ?_
      rintro v h' ⟨rfl, rfl⟩
      simp +contextual -implicitDefEqProofs only [killAll, List.foldl, codeB, List.cons_append, List.nil_append, go_sem]
      refine range87 rfl q ws (keysOf l)[i] (by omega) (fun p => p.1 ∈ l) (HD := .box [.p (.int .i64 q), .p (.sl (ws.map .str))] :: .box [.p (.int .i64 23)] :: .mp (setM l) :: .box [.map 2] :: .dead :: .dead :: .it 2 (setM l).length (seen ++ [i]) (setM l).length ::
        (T ++ [.box [.p (.int .i64 q), .p (.sl (ws.map .str))], .box [.p (.str (keysOf l)[i])]])) rfl (by simp [codeB]) (by simp) (by simp) ?_ ?_ ?_
      · intro p hp
        obtain ⟨HD, hHD⟩ : ∃ HD : List AObj, HD = .box [.p (.int .i64 q), .p (.sl (ws.map .str))] :: .box [.p (.int .i64 23)] :: .mp (setM l) :: .box [.map 2] :: .dead :: .dead :: .it 2 (setM l).length (seen ++ [i]) (setM l).length ::
          (T ++ [.box [.p (.int .i64 q), .p (.sl (ws.map .str))], .box [.p (.str (keysOf l)[i])]]) := ⟨_, rfl⟩
        obtain ⟨H, hH⟩ : ∃ H : List AObj, H = .box [.p (.int .i64 q), .p (.sl (ws.map .str))] :: .box [.p (.int .i64 0)] :: .mp (setM l) :: .box [.map 2] :: .dead :: .dead :: .it 2 (setM l).length (seen ++ [i]) (setM l).length ::
          (T ++ [.box [.p (.int .i64 q), .p (.sl (ws.map .str))], .box [.p (.str (keysOf l)[i])]]) := ⟨_, rfl⟩
        rw [← hHD, ← hH]
        have f1 : ∀ x, (H ++ [x])[1]? = some (.box [.p (.int .i64 0)]) := fun x => by rw [hH]; rfl
        have f2 : ∀ x, (H ++ [x])[2]? = some (.mp (setM l)) := fun x => by rw [hH]; rfl
        have f3 : ∀ x, (H ++ [x])[3]? = some (.box [.map 2]) := fun x => by rw [hH]; rfl
        have fs : ∀ x, (H ++ [x]).set 1 (.box [.p (.int .i64 23)]) = HD ++ [x] := fun x => by rw [hH, hHD]; rfl
        have fl : ∀ x : AObj, (H ++ [x])[H.length]? = some x := fun x => by simp
        have ft : ∀ x y : AObj, (H ++ [x]).set H.length y = H ++ [y] := fun x y => by simp
        have fL : HD.length = H.length := by rw [hH, hHD]; rfl
        have gl : ∀ x : AObj, (HD ++ [x])[H.length]? = some x := fun x => by rw [← fL]; simp
        have gt : ∀ x y : AObj, (HD ++ [x]).set H.length y = HD ++ [y] := fun x y => by rw [← fL]; simp
        clear hH hHD
        refine YC.of_body (Γ := Γ) (fl _) rfl (by simp) ?_
        intro r
        refine AWp.of_awpD [] hΓ hmix (by kernel_rfl) ?_
        simp +contextual -implicitDefEqProofs only [setP, go_sem]
        unfold BeginE
        refine ⟨rfl, ?_⟩
        simp only [fl, ft]
        refine AWp.of_awpD [] hΓ hmix (by kernel_rfl) ?_
        simp +contextual -implicitDefEqProofs only [f1, f2, f3, fs, setM_get, go_sem]
        refine ⟨fun hm => ?_, fun hm => ?_⟩
        · unfold RoundE
          simp only [fl, ft]
          exact ⟨_, by simp, .inl rfl, .inl ⟨trivial, List.take_length⟩⟩
        · unfold RoundE
          simp only [gl, gt]
          exact ⟨_, by simp [fL], .inl rfl, .inr ⟨trivial, List.take_length⟩⟩
      · intro hall2
        simp +contextual -implicitDefEqProofs only [List.cons_append, List.append_assoc, List.nil_append, go_sem]
        refine ⟨(seen ++ [i], m + 3), ⟨by simp, ?_⟩, ⟨?_, ?_, ?_⟩, ?_⟩
        · have e3 : List.replicate (m + 3) AObj.dead = List.replicate (T ++ [AObj.box [.p (.int .i64 q), .p (.sl (ws.map .str))], .box [.p (.str (keysOf l)[i])], .dead]).length .dead := by rw [← hT]; simp
          simp only [e3]
          exact weakH_dead _
        · exact List.nodup_append.2 ⟨hnd, by simp, fun a ha b hb e => by simp only [List.mem_singleton] at hb; subst hb; subst e; exact hni ha⟩
        · intro j hj
          rcases List.mem_append.1 hj with hj | hj
          · exact hlt j hj
          · simp only [List.mem_singleton] at hj; subst hj; exact hi
        · intro j hj u hu
          rcases List.mem_append.1 hj with hj | hj
          · exact hok j hj u hu
          · simp only [List.mem_singleton] at hj; subst hj
            rw [e1] at hu
            exact (nexts_next _ l).1 hall2 u hu
        · have : (seen ++ [i]).length ≤ (setM l).length := by
            have hsub : seen ++ [i] ⊆ List.range (setM l).length := fun j hj => by
              rcases List.mem_append.1 hj with hj | hj
              · exact List.mem_range.2 (hlt j hj)
              · simp only [List.mem_singleton] at hj; subst hj; exact List.mem_range.2 hi
            have hnd2 : (seen ++ [i]).Nodup := List.nodup_append.2 ⟨hnd, by simp, fun a ha b hb e => by simp only [List.mem_singleton] at hb; subst hb; subst e; exact hni ha⟩
            have := nodup_sub_len hnd2 hsub
            simpa using this
          simp only [List.length_append, List.length_singleton] at this ⊢
          omega
      · rintro ⟨p, hp, hbad⟩
        simp +contextual -implicitDefEqProofs only [List.cons_append, List.append_assoc, List.nil_append, go_sem]
        refine (proofCheck_23 h h1' (fun e => hbad ?_)).symm
        refine (nexts_next _ l).2 (fun u hu => e.2 u ?_) p hp
        unfold needN
        rw [List.take_length]
        exact List.mem_append.2 (.inr (List.mem_flatMap.2 ⟨_, hmem, hu⟩))
  · rintro ⟨p, hp, hbad⟩
    simp +contextual -implicitDefEqProofs only [List.cons_append, List.nil_append, codeB, go_sem]
    refine (proofCheck_23 h h1' (fun e => hbad ?_)).symm
    refine (pairs_first (distinct_of h) l).2 (fun u hu => e.2 u ?_) p hp
    unfold needN
    exact List.mem_append.2 (.inl hu)
end Go.Proofs.Ytpancbdaigaheaa
