/-
  Texts of this claim, joined.
-/
import Derived.Test.YtnilegembmcelaaDoorJ04bcde625c08

section
namespace Go.AM
open Go.RowKit

def AV.pure1 : AV → Option PV
  | .p v => some v
  | .full l => some (.sl l)
  | .nil => some (.sl [])
  | _ => none
def AV.pures : List AV → Option (List PV)
  | [] => some []
  | v :: l => match v.pure1, AV.pures l with
    | some x, some xs => some (x :: xs)
    | _, _ => none
def AV.pure : AV → Option PV
  | .agg l => (AV.pures l).map .agg
  | v => v.pure1

section
variable {P : Program} {X : Ctx} {I : Nat → Prop} {μ : Nat → Value} {ob : Nat → Option Nat} {w w' : World} {a : Act} {tm : List AV} {h : List AObj} {n : Nat}

theorem VR.pure1 {x : AV} {v : Value} {p : PV} (hx : VR n μ I w x v) (hp : x.pure1 = some p) : PR I w p v := by
  cases hx with
  | p x v h => simp only [AV.pure1, Option.some.injEq] at hp; subst hp; exact h
  | full l a h => simp only [AV.pure1, Option.some.injEq] at hp; subst hp; exact h
  | nil => simp only [AV.pure1, Option.some.injEq] at hp; subst hp; exact .sl0 none 0 (fun _ => rfl)
  | _ => simp [AV.pure1] at hp

theorem AV.pures_get : ∀ {l : List AV} {ps : List PV}, AV.pures l = some ps → l.length = ps.length ∧ ∀ i, i < l.length → (l.getD i .junk).pure1 = some (ps.getD i default)
  | [], ps, h => by simp only [AV.pures, Option.some.injEq] at h; subst h; simp
  | v :: l, ps, h => by
    simp only [AV.pures] at h
    split at h
    · rename_i x xs h1 h2
      simp only [Option.some.injEq] at h; subst h; obtain ⟨e1, e2⟩ := AV.pures_get h2; refine ⟨by simp [e1], fun i hi => ?_⟩
      cases i with
      | zero => simpa using h1
      | succ i => simpa using e2 i (by simpa using hi)
    · cases h

theorem VR.pure {x : AV} {v : Value} {p : PV} (hx : VR n μ I w x v) (hp : x.pure = some p) : PR I w p v := by
  unfold AV.pure at hp
  split at hp
  · rename_i l
    obtain ⟨cs, rfl, hl, hr⟩ := hx.agg_inv
    cases hps : AV.pures l with
    | none => rw [hps] at hp; simp at hp
    | some ps =>
      rw [hps] at hp; simp only [Option.map_some, Option.some.injEq] at hp; subst hp; obtain ⟨e1, e2⟩ := AV.pures_get hps; exact .agg _ _ (by omega) (fun i hi => (hr i (by omega)).pure1 (e2 i (by omega)))
  · exact hx.pure1 hp

def Zaz (I : Nat → Prop) (w : World) (s : Nat) (xs : List PV) (a : Addr) (news : List Value) : Prop :=
  news.length = xs.length * s ∧ (∀ j u, news[j]? = some u → w.cell? (a.add j) = some u) ∧ ∀ j, j < xs.length * s → PR I w ((Zk xs).getD j default) (news.getD j undef)

theorem PR.cellsAt {xs : List PV} {v : Value} {s : Nat} (h : PR I w (.sl xs) v) (hs : Zp xs s) (hne : xs ≠ []) : ∃ ad c news, v = .slice (some ad) xs.length c ∧ Zaz I w s xs ad news := by
  cases h with
  | sl0 a cap ha => exact absurd rfl hne
  | sl l s' g off cap cur E fz vs hl hI hw hc hs' hv hr =>
    have hss : s' = s := by
      cases xs with
      | nil => exact absurd rfl hl
      | cons x l => exact (hs' x (by simp)).symm.trans (hs x (by simp))
    subst hss; refine ⟨⟨g, off, none⟩, cap, (List.range (xs.length * s')).map vs, rfl, by simp, fun j u hu => ?_, fun j hj => ?_⟩
    · have hj : j < xs.length * s' := by have := (List.getElem?_eq_some_iff.1 hu).1; simpa using this
      simp only [List.getElem?_map, List.getElem?_range hj, Option.map_some, Option.some.injEq] at hu; rw [Addr.add_lit, cell_of_row w g _ cur E fz hw, hv j hj, hu]
    · have h0 : 0 < s' := by
        rcases Nat.eq_zero_or_pos s' with h | h
        · subst h; simp at hj
        · exact h
      have hq : j / s' < xs.length := Nat.div_lt_of_lt_mul (by rw [Nat.mul_comm]; exact hj); have hr' : j % s' < s' := Nat.mod_lt _ h0; have hjq : j = (j / s') * s' + j % s' := by rw [Nat.mul_comm]; exact (Nat.div_add_mod j s').symm
      have e1 := Z0o hs' (i := j / s') (j := j % s') hq hr'; have h1 := hr (j / s') (j % s') hq hr'; rw [← hjq] at e1 h1; rw [e1]
      simpa [List.getD_eq_getElem?_getD, List.getElem?_range hj] using h1

theorem RowIn.cellsAt {E : TypeId} {s : Nat} {xs : List PV} {v : Value} {g : Nat} {fz : Bool} (h : RowIn I w E s xs v g fz) : ∃ off c news, v = .slice (some ⟨g, off, none⟩) xs.length c ∧ Zaz I w s xs ⟨g, off, none⟩ news := by
  obtain ⟨off, cap, cur, fr, vs, hv, hw, _, _, hle, _, hcs, htake, hvl, hpr⟩ := h; refine ⟨off, cap, vs, hv, hvl, fun j u hu => ?_, hpr⟩; have hj : j < xs.length * s := by have := (List.getElem?_eq_some_iff.1 hu).1; omega
  rw [Addr.add_lit, cell_of_row w g _ cur E fr hw]; rw [← htake, List.getElem?_take, if_pos (by omega), List.getElem?_drop] at hu
  simpa using hu

def AV.listH (h : List AObj) : AV → Option (List PV)
  | .own b _ => (match h[b]? with
    | some (.row _ _ xs _) => some xs
    | _ => none)
  | v => v.list

theorem VR.listH {x : AV} {v : Value} {xs : List PV} (hx : VR n μ I w x v) (hobj : ∀ b o, h[b]? = some o → ObjOK n μ I ob w b o) (hl : x.listH h = some xs) {s : Nat} (hs : Zp xs s) :
    (∃ a c, v = .slice a xs.length c ∧ xs.length ≤ c) ∧ (xs ≠ [] → ∃ ad c news, v = .slice (some ad) xs.length c ∧ Zaz I w s xs ad news) := by
  unfold AV.listH at hl
  split at hl
  · rename_i b k
    split at hl
    · rename_i E s' xs' rk hb
      simp only [Option.some.injEq] at hl; subst hl; obtain ⟨hall, hrow⟩ := hobj _ _ hb; obtain ⟨a, c, rfl, hbn, hbm⟩ := hx.own_inv; rcases hrow with ⟨g, _, hin⟩ | ⟨_, _, a', h1, h2⟩
      · obtain ⟨off, c', news, e, hc⟩ := hin.cellsAt
        obtain ⟨_, cap, _, _, _, e3, _, _, _, hle, _⟩ := hin; rw [hbm] at e e3
        injection e with e0 e1 e2; subst e0 e1 e2
        injection e3 with _ _ e4; subst e4
        refine ⟨⟨_, _, rfl, hle⟩, fun hne => ⟨_, _, news, rfl, ?_⟩⟩; have hss : s' = s := by
          cases xs' with
          | nil => exact absurd rfl hne
          | cons x l => exact (hall x (by simp)).symm.trans (hs x (by simp))
        subst hss; exact hc
      · rw [hbm] at h1; injection h1 with e0 e1 e2; subst e0 e1 e2
        rw [hbm] at h2; exact ⟨⟨_, _, rfl, Nat.le_refl _⟩, fun hne => h2.cellsAt hs hne⟩
    · cases hl
  · have hp := hx.list_inv hl
    obtain ⟨a, c, rfl, hle, _⟩ := hp.sl_len; exact ⟨⟨a, c, rfl, hle⟩, fun hne => hp.cellsAt hs hne⟩

/-! append -/
def PV.isAgg : PV → Bool
  | .agg _ => true
  | _ => false
def Z8n (xs : List PV) : Prop := ∀ x ∈ xs, ∀ c ∈ x.cells, c.isAgg = false

def Z5l (ys : List PV) (k : RK) : RK := if ys.isEmpty then k else .own

def appK (Γ : Gam) (n0 : Nat) (ks : List Nat) (tm : List AV) (h : List AObj) (d : Option Nat) (t : TypeId) (x y : AV) (K : St → Prop) : Prop :=
  tyAt Γ t fun te => (match te.td with
    | .slice e => tyAt Γ e fun ee => (match y.listH h with
      | some ys => (0 < ee.cells ∧ ee.zero.isSome = true ∧ Zp ys ee.cells ∧ Z8n ys) ∧ (match x with
        | .own b m => (match h[b]? with
          | some (.row E s xs k) => (k ≠ .raw ∧ (n0 ≤ b ∨ b ∈ ks) ∧ E = e ∧ s = ee.cells ∧ (m + ys.length) * ee.bytes ≤ 140737488355328 ∧ m + ys.length ≤ 9223372036854775807) ∧
            K ⟨putD (tm.map (AV.kill b)) d (.own b (m + ys.length)), (h.map (AObj.kill b)).set b (.row e s (xs ++ ys) (Z5l ys k))⟩
          | _ => False)
        | .full l => (Zp l ee.cells ∧ (l.length + ys.length) * ee.bytes ≤ 140737488355328 ∧ l.length + ys.length ≤ 9223372036854775807) ∧
            K ⟨putD tm d (.own h.length (l.length + ys.length)), h ++ [.row e ee.cells (l ++ ys) (Z5l ys .lax)]⟩
        | _ => False)
      | none => False)
    | _ => False)

theorem Z38 (xs ys : List PV) : Zk (xs ++ ys) = Zk xs ++ Zk ys := by simp [Zk]

theorem Z1h {t ty e : TypeId} {i : TypeInfo} (ht : P.underlying t = some (.slice e)) (hi : P.info? e = some i) (base : Option Addr) (m cap : Nat) (hm : m ≤ cap) (x : Option Addr) (c : Nat) :
    (Builtin.append_ #[t, t] ty #[.slice base m cap, .slice x 0 c]).run P w = .ok (.slice base m cap) w := by
  cases x <;> cases base <;> simp [Builtin.append_, run_underlying ht, sizeOf, typeInfo, hi, Builtin.lenOf, hm, Builtin.firstCells, loadCells, loadCellsFrom, storeCells]

theorem Z3i {t ty e : TypeId} {i : TypeInfo} (ht : P.underlying t = some (.slice e)) (hi : P.info? e = some i)
    (g off sLen sCap : Nat) (cur : Array Value) (hg : w.heap[g]? = some (.cells cur e (0, 0)))
    (a : Addr) (m c : Nat) (news : List Value) (hl : news.length = m * i.size) (hnews : ∀ j u, news[j]? = some u → w.cell? (a.add j) = some u) (h1 : ∀ u ∈ news, u.oneCell' = true)
    (hroom : sLen + m ≤ sCap) (hfit : off + sLen * i.size + news.length ≤ cur.size) :
    (Builtin.append_ #[t, t] ty #[.slice (some ⟨g, off, none⟩) sLen sCap, .slice (some a) m c]).run P w =
      .ok (.slice (some ⟨g, off, none⟩) (sLen + m) sCap) (w.setRow g (cur.toList.take (off + sLen * i.size) ++ news ++ cur.toList.drop (off + sLen * i.size + news.length)).toArray) := by
  have hf := run_firstCells_some (P := P) w i.size m a m c news hl hnews; have hst := run_storeCells_at P g (off + sLen * i.size) e news 0 cur w hg (by simpa using hfit) h1; simp only [Nat.add_zero] at hst; simp [Builtin.append_, run_underlying ht, sizeOf, typeInfo, hi, Builtin.lenOf, hroom, hf, Addr.add_lit, hst]

theorem Z3x {e : TypeId} {s : Nat} {xs ys : List PV} {olds news : List Value} (z : Array Value) (hz : z.size = s) (hxs : ∀ x ∈ xs, x.cells.length = s) (hold : olds.length = xs.length * s) (hnew : news.length = ys.length * s)
    (hpo : ∀ j, j < xs.length * s → PR I w ((Zk xs).getD j default) (olds.getD j undef)) (hpn : ∀ j, j < ys.length * s → PR I w ((Zk ys).getD j default) (news.getD j undef))
    (himm : ∀ g, I g → g < w.heap.size) (cap : Nat) (hc : xs.length + ys.length ≤ cap) (hmax : cap ≤ maxLen) :
    RowIn I (w.drew.alloc (.cells (olds.toArray ++ news.toArray ++ Builtin.zeroCells z (cap - (xs.length + ys.length))) e)) e s (xs ++ ys) (.slice (some ⟨w.heap.size, 0, none⟩) (xs.length + ys.length) cap) w.heap.size true := by
  have hIw : ∀ g, I g → (w.drew.alloc (.cells (olds.toArray ++ news.toArray ++ Builtin.zeroCells z (cap - (xs.length + ys.length))) e)).heap[g]? = w.heap[g]? := fun g hg => Below.heap_alloc w.drew _ g (himm g hg)
  have hlen : (olds ++ news).length = (xs ++ ys).length * s := by simp only [List.length_append, hold, hnew, Nat.add_mul]
  have hsz : (olds.toArray ++ news.toArray ++ Builtin.zeroCells z (cap - (xs.length + ys.length))).size = cap * s := by
    simp only [Array.size_append, List.size_toArray, size_zeroCells, hz, hold, hnew]; rw [← Nat.add_mul, ← Nat.add_mul]; congr 1; omega
  refine ⟨0, cap, _, (0, 0), olds ++ news, by simp, heap_alloc_new w.drew _, fun _ => rfl, fun j _ => by simp, by simpa using hc, hmax, by rw [Nat.zero_add]; exact Nat.le_of_eq hsz.symm, ?_, hlen, fun j hj => ?_⟩
  · simp only [Array.toList_append, List.drop_zero]
    rw [← hlen]; exact List.take_left
  · have hfl : (Zk xs).length = xs.length * s := Z1o hxs
    rw [Z38]; by_cases h1 : j < xs.length * s
    · have := (hpo j h1).mono (fun _ h => h) hIw
      simpa [List.getD_eq_getElem?_getD, List.getElem?_append_left (show j < (Zk xs).length by omega), List.getElem?_append_left (show j < olds.length by omega)] using this
    · have h2 : j - xs.length * s < ys.length * s := by
        simp only [List.length_append, Nat.add_mul] at hj; omega
      have := (hpn _ h2).mono (fun _ h => h) hIw
      simpa [List.getD_eq_getElem?_getD, List.getElem?_append_right (show (Zk xs).length ≤ j by omega), List.getElem?_append_right (show olds.length ≤ j by omega), hfl, hold] using this

theorem Zak {xs : List PV} {s : Nat} {ad : Addr} {news : List Value} (hc : Zaz I w s xs ad news) (hs : Zp xs s) (hone : Z8n xs) : ∀ u ∈ news, u.oneCell' = true := by
  intro u hu; obtain ⟨j, hj, rfl⟩ := List.getElem_of_mem hu; have hj' : j < xs.length * s := by rw [← hc.1]; exact hj
  have hp := hc.2.2 j hj'; have e : news.getD j undef = news[j] := by simp [List.getD_eq_getElem?_getD, List.getElem?_eq_getElem hj]
  rw [e] at hp; have hm : (Zk xs).getD j default ∈ Zk xs := by
    have : j < (Zk xs).length := by rw [Z1o hs]; exact hj'
    rw [List.getD_eq_getElem?_getD, List.getElem?_eq_getElem this, Option.getD_some]; exact List.getElem_mem _
  obtain ⟨x, hx, hcx⟩ := List.mem_flatMap.1 hm; have hna := hone x hx _ hcx; generalize (Zk xs).getD j default = q at hp hna; generalize news[j] = u at hp
  cases hp <;> first | rfl | (simp [PV.isAgg] at hna)

theorem Z2l {xs ys : List PV} {s : Nat} (h1 : ∀ x ∈ xs, x.cells.length = s) (h2 : Zp ys s) : ∀ x ∈ xs ++ ys, x.cells.length = s := fun x hx => by
  rcases List.mem_append.1 hx with h | h
  · exact h1 x h
  · exact h2 x h

theorem Z89 {w w' : World} {r : Option Nat} (h : w.grownBy w' none) : w.grownBy w' r := ⟨h.os, h.tape, h.output, h.size, fun k hk _ => h.block k hk (by simp)⟩
theorem Zt (w : World) (o : Obj) : w.grownBy (w.drew.alloc o) none := ⟨rfl, rfl, rfl, by simp, fun k hk _ => Below.heap_alloc w.drew o k hk⟩

theorem Zat {Γ : Gam} (hΓ : Zg P Γ) {t ty : TypeId} {x y : AV} {vx vy : Value} {d : Option Nat} {K : St → Prop} (R : Rep X I μ ob ⟨tm, h⟩ w a) (hx : VR h.length μ I w x vx) (hy : VR h.length μ I w y vy)
    (hk : appK Γ X.n0 X.ks tm h d t x y K) : StepOK P X I μ h.length (Builtin.append_ #[t, t] ty #[vx, vy]) w a d K := by
  unfold appK at hk; obtain ⟨te, ht, hk⟩ := hk.get
  split at hk
  · rename_i e he
    obtain ⟨ee, hee, hk⟩ := hk.get
    split at hk
    · rename_i ys hys
      obtain ⟨⟨h0, hz, hsy, hone⟩, hk⟩ := hk; obtain ⟨dd, hu, hd, _⟩ := (hΓ _ _ ht).desc; rw [he] at hd; simp only [Z7] at hd; subst hd; obtain ⟨inf, hinf, hsz, hby, hzero⟩ := (hΓ _ _ hee).info; obtain ⟨z, hz'⟩ := Option.isSome_iff_exists.1 hz; obtain ⟨zv, hzv, _, hzs⟩ := hzero z hz'; obtain ⟨⟨ya, yc, rfl, hyc⟩, hyne⟩ := hy.listH R.objs hys hsy
      split at hk
      · rename_i b m _ _
        split at hk
        · rename_i E s xs k hb
          obtain ⟨⟨hraw, hmay, rfl, rfl, hbytes, hmax⟩, hK⟩ := hk; obtain ⟨hall, hrow⟩ := R.objs _ _ hb; obtain ⟨xa, xc, rfl, hbn, hbm⟩ := hx.own_inv; have hxs : m = xs.length ∧ m ≤ xc := by
            rcases hrow with ⟨g, _, _, cap, _, _, _, e3, _, _, _, hle, _⟩ | ⟨_, _, a', h1, _⟩
            · rw [hbm] at e3; injection e3 with _ e4 e5; omega
            · rw [hbm] at h1; injection h1 with _ e4 e5; omega
          obtain ⟨rfl, hmc⟩ := hxs; by_cases hy0 : ys = []
          · subst hy0
            have hrun := Z1h (P := P) (ty := ty) (w := w) hu hinf xa xs.length xc hmc ya yc
            have R1 := R.move (w' := w) (v := .slice xa xs.length xc) (g := ob b) (o := .row E ee.cells (xs ++ []) (Z5l [] k)) hbn (by rcases hmay with h | h; exact .inl h; exact .inr h)
              ⟨rfl, rfl, rfl, Nat.le_refl _, fun _ _ _ => rfl⟩ (fun k e => ⟨.inl e, (R.own _ _ e).2.2⟩) (by
                have hu1 : upd μ b (.slice xa xs.length xc) = μ := by
                  funext c
                  by_cases hc : c = b
                  · subst hc; simp [hbm]
                  · simp [upd, hc]
                have hu2 : upd ob b (ob b) = ob := by
                  funext c
                  by_cases hc : c = b
                  · subst hc; simp
                  · simp [upd, hc]
                rw [hu1, hu2, List.append_nil]; exact R.objs _ _ hb)
            have R2 := R1.put (v := .own b (xs.length + 0)) (cv := .slice xa xs.length xc) (.own _ _ _ _ (by simpa using hbn) (by simp)) d; exact ⟨_, _, _, hrun, ⟨_, _, _, fun _ h => h, R2, fun c hc hm => Z2 _ _ (fun e => hm (by subst e; exact hmay))⟩, hK⟩
          · have hyl : 0 < ys.length := List.length_pos_iff.2 hy0
            have hRK : Z5l ys k = .own := by unfold Z5l; rw [if_neg (by simpa using hy0)]
            rw [hRK] at hK; obtain ⟨ad, c', news, e1, hcy⟩ := hyne hy0
            injection e1 with e1 _ e2; subst e1 e2
            have hones := Zak hcy hsy hone; have hreadx : ∃ olds, Zaz I w ee.cells xs ((xa.getD default)) olds ∧ (xs ≠ [] → xa.isSome = true) := by
              by_cases hx0 : xs = []
              · exact ⟨[], ⟨by simp [hx0], by simp, by simp [hx0]⟩, fun h => absurd hx0 h⟩
              · obtain ⟨_, h2⟩ := hx.listH (n := h.length) R.objs (xs := xs) (by simp [AV.listH, hb]) hall
                obtain ⟨ad', c'', olds, e1, hc⟩ := h2 hx0
                injection e1 with e1 _ _; subst e1
                exact ⟨olds, hc, fun _ => rfl⟩
            obtain ⟨olds, hcx, hxsome⟩ := hreadx
            have fin : ∀ (w' : World) (v' : Value) (g' : Nat), (Builtin.append_ #[t, t] ty #[.slice xa xs.length xc, .slice (some ad) ys.length yc]).run P w = .ok v' w' → w.grownBy w' (ob b) →
                (ob b = some g' ∨ w.heap.size ≤ g') → g' < w'.heap.size → RowIn I w' E ee.cells (xs ++ ys) v' g' true →
                StepOK P X I μ h.length (Builtin.append_ #[t, t] ty #[.slice xa xs.length xc, .slice (some ad) ys.length yc]) w a d K := by
              intro w' v' g' hrun hg hgo hglt hin
              have R1 := R.move (w' := w') (v := v') (g := some g') (o := .row E ee.cells (xs ++ ys) .own) hbn (by rcases hmay with h | h; exact .inl h; exact .inr h)
                hg (fun k e => by injection e with e; subst e; exact ⟨hgo, hglt⟩) (by
                  refine ⟨Z2l hall hsy, .inl ⟨g', by simp, ?_⟩⟩; simp only [Z5]; exact hin)
              obtain ⟨off, cap, cur, fr, vs, e3, _⟩ := hin
              have R2 := R1.put (v := .own b (xs.length + ys.length)) (cv := v') (by
                have := VR.own (n := h.length) (μ := upd μ b v') (I := I) (w := w') b (xs ++ ys).length (some ⟨g', off, none⟩) cap hbn (by rw [Z5, e3]); rw [← e3, List.length_append] at this
                simpa using this) d
              exact ⟨_, _, _, hrun, ⟨_, _, _, fun _ h => h, R2, fun c hc hm => Z2 _ _ (fun e => hm (by subst e; exact hmay))⟩, hK⟩
            have hmax' : xs.length + ys.length ≤ maxLen := by simp only [maxLen]; omega
            have hcapm : ∀ old, grownCap w (xs.length + ys.length) old E ≤ maxLen := fun old => grownCap_le_maxLen w _ _ _ hmax'
            have hcapg : ∀ old, xs.length + ys.length ≤ grownCap w (xs.length + ys.length) old E := fun old => grownCap_ge w _ _ _
            by_cases hroom : xs.length + ys.length ≤ xc
            · -- in place: the row is owned, for a full one has no room
              rcases hrow with ⟨g, hobg, hin⟩ | ⟨_, _, a', h1, _⟩
              · obtain ⟨off, cap, cur, fr, vs, e3, hw, hfr, _, hle, hcm, hcs, htake, hvl, hpr⟩ := hin
                rw [hbm] at e3; injection e3 with e4 _ e5; subst e4 e5
                have hfr' := hfr (by simpa using hraw); subst hfr'; have hnl : news.length = ys.length * inf.size := by rw [hsz]; exact hcy.1
                have hfit : off + xs.length * inf.size + news.length ≤ cur.size := by
                  have h1 : (xs.length + ys.length) * ee.cells ≤ xc * ee.cells := Nat.mul_le_mul_right _ hroom; rw [Nat.add_mul] at h1; rw [hnl, hsz]; omega
                have hrun := Z3i (P := P) (ty := ty) hu hinf g off xs.length xc cur hw ad ys.length yc news hnl hcy.2.1 hones hroom hfit; have hg := Z0x w g (cur.toList.take (off + xs.length * inf.size) ++ news ++ cur.toList.drop (off + xs.length * inf.size + news.length)).toArray
                have hIw : ∀ k, I k → (w.setRow g (cur.toList.take (off + xs.length * inf.size) ++ news ++ cur.toList.drop (off + xs.length * inf.size + news.length)).toArray).heap[k]? = w.heap[k]? :=
                  fun k hk => hg.block k (R.imm k hk) (fun e => by injection e with e; subst e; exact (R.own _ _ hobg).1 hk)
                refine fin _ _ g hrun (by rw [hobg]; exact hg) (.inl hobg) (by simpa using (R.own _ _ hobg).2.2) ?_; have hxl : off + xs.length * inf.size ≤ cur.toList.length := by simp only [Array.length_toList]; omega
                have hfl : (Zk xs).length = xs.length * ee.cells := Z1o hall; refine ⟨off, xc, _, (0, 0), _, by simp, setRow_heap w g cur _ E (0, 0) hw, fun _ => rfl, fun j _ => by simp, by simpa using hroom, hcm, ?_, rfl, ?_, fun j hj => ?_⟩
                · simp only [List.size_toArray, List.length_append, List.length_take, List.length_drop, Array.length_toList]; omega
                · simp only [List.length_take, List.length_append, List.length_drop, Array.length_toList, Nat.add_mul]
                  rw [hsz] at *; omega
                · have hjj : j < xs.length * ee.cells + ys.length * ee.cells := by rw [← Nat.add_mul, ← List.length_append]; exact hj
                  have e := Z2c cur.toList news (off + xs.length * inf.size) (off + j) undef (by simp only [Array.length_toList]; omega); have e0 : (((cur.toList.take (off + xs.length * inf.size) ++ news ++ cur.toList.drop (off + xs.length * inf.size + news.length)).drop off).take ((xs ++ ys).length * ee.cells)).getD j undef = (cur.toList.take (off + xs.length * inf.size) ++ news ++ cur.toList.drop (off + xs.length * inf.size + news.length)).getD (off + j) undef := by
                    simp only [List.getD_eq_getElem?_getD, List.getElem?_take, if_pos hj, List.getElem?_drop]
                  show PR I _ _ _; simp only; rw [e0, e, Z38]; by_cases h1 : j < xs.length * ee.cells
                  · rw [if_neg (by rw [hsz]; omega)]
                    have ev : cur.toList.getD (off + j) undef = vs.getD j undef := by
                      rw [← htake]; simp only [List.getD_eq_getElem?_getD, List.getElem?_take, if_pos h1, List.getElem?_drop]
                    rw [ev]; have := (hpr j h1).mono (fun _ h => h) hIw
                    simpa [List.getD_eq_getElem?_getD, List.getElem?_append_left (show j < (Zk xs).length by omega)] using this
                  · rw [if_pos (by rw [hnl, hsz]; omega), show off + j - (off + xs.length * inf.size) = j - xs.length * inf.size by omega]
                    have := (hcy.2.2 (j - xs.length * ee.cells) (by omega)).mono (fun _ h => h) hIw
                    simpa [List.getD_eq_getElem?_getD, List.getElem?_append_right (show (Zk xs).length ≤ j by omega), hfl, hsz] using this
              · rw [hbm] at h1; injection h1 with _ e4 e5; omega
            · -- grown
              have hnl : news.length = ys.length * inf.size := by rw [hsz]; exact hcy.1
              have hol : olds.length = xs.length * inf.size := by rw [hsz]; exact hcx.1
              have hrg := fun cap hc hm => Z3x (w := w) (e := E) zv.cells hzs hall hcx.1 hcy.1 hcx.2.2 hcy.2.2 R.imm cap hc hm
              cases xa with
              | none =>
                have hx0 : xs = [] := by
                  by_cases h : xs = []
                  · exact h
                  · have := hxsome h; simp at this
                subst hx0; have hxc : xc = 0 := by
                  rcases hrow with ⟨g, _, _, cap, _, _, _, e3, _⟩ | ⟨_, _, a', h1, h2⟩
                  · rw [hbm] at e3; injection e3 with e4; cases e4
                  · rw [hbm] at h1; injection h1
                subst hxc; simp only [List.length_nil, Nat.zero_add] at *; have hob0 : olds = [] := List.eq_nil_of_length_eq_zero (by simpa using hol); subst hob0; have hrun := run_append_nil (P := P) (w := w) t ty E inf zv hu hinf hzv ad ys.length yc news hnl hcy.2.1 hyl (by omega) (by rw [hby]; omega); refine fin _ _ w.heap.size hrun (Z89 (Zt w _)) (.inr (Nat.le_refl _)) (by simp) ?_; have := hrg (grownCap w ys.length 0 E) (hcapg 0) (hcapm 0)
                simpa using this
              | some xad =>
                have hrun := run_append_grow (P := P) (w := w) t ty E inf zv hu hinf hzv xad xs.length xc olds hol (by simpa using hcx.2.1) ad ys.length yc news hnl hcy.2.1 (by omega) (by omega)
                  (by rw [hby]; exact growslice_fits (by omega) hbytes)
                refine fin _ _ w.heap.size hrun (Z89 (Zt w _)) (.inr (Nat.le_refl _)) (by simp) ?_; exact hrg (grownCap w (xs.length + ys.length) xc E) (hcapg xc) (hcapm xc)
        · exact hk.elim
      · rename_i l _ _
        obtain ⟨⟨hsl, hbytes, hmax⟩, hK⟩ := hk; obtain ⟨xa, xc, rfl, hxc, hxn⟩ := (hx.list_inv (l := l) rfl).sl_len; have hfull : xc = l.length ∧ PR I w (.sl l) (.slice xa l.length l.length) := by cases hx with | full _ _ h => exact ⟨rfl, h⟩
        obtain ⟨rfl, hpl⟩ := hfull; by_cases hy0 : ys = []
        · subst hy0
          have hrun := Z1h (P := P) (ty := ty) (w := w) hu hinf xa l.length l.length (Nat.le_refl _) ya yc
          have R1 := R.name (w' := w) (v := .slice xa l.length l.length) (g := none) (o := .row e ee.cells (l ++ []) (Z5l [] .lax)) ⟨rfl, rfl, rfl, Nat.le_refl _, fun _ _ _ => rfl⟩ (fun k e => by cases e) (by
            refine ⟨by simpa [Zp] using hsl, .inr ⟨rfl, by simp, xa, by simp, by simpa using hpl⟩⟩)
          have R2 := R1.put (v := .own h.length (l.length + 0)) (cv := .slice xa l.length l.length) (.own _ _ _ _ (by simp) (by simp)) d; exact ⟨_, _, _, hrun, ⟨_, _, _, fun _ h => h, R2, fun b hb _ => Zy hb _⟩, hK⟩
        · have hyl : 0 < ys.length := List.length_pos_iff.2 hy0
          have hRK : Z5l ys .lax = .own := by unfold Z5l; rw [if_neg (by simpa using hy0)]
          rw [hRK] at hK; obtain ⟨ad, c', news, e1, hcy⟩ := hyne hy0
          injection e1 with e1 _ e2; subst e1 e2
          have fin : ∀ (w' : World) (v' : Value), (Builtin.append_ #[t, t] ty #[.slice xa l.length l.length, .slice (some ad) ys.length yc]).run P w = .ok v' w' → w.grownBy w' none →
              w.heap.size < w'.heap.size → RowIn I w' e ee.cells (l ++ ys) v' w.heap.size true →
              StepOK P X I μ h.length (Builtin.append_ #[t, t] ty #[.slice xa l.length l.length, .slice (some ad) ys.length yc]) w a d K := by
            intro w' v' hrun hg hglt hin
            have R1 := R.name (w' := w') (v := v') (g := some w.heap.size) (o := .row e ee.cells (l ++ ys) .own) hg (fun k e => by injection e with e; subst e; exact ⟨Nat.le_refl _, hglt⟩) (by
              refine ⟨Z2l hsl hsy, .inl ⟨w.heap.size, by simp, ?_⟩⟩; simp only [Z5]; exact hin)
            obtain ⟨off, cap, cur, fr, vs, e3, _⟩ := hin
            have R2 := R1.put (v := .own h.length (l.length + ys.length)) (cv := v') (by
              have := VR.own (n := h.length + 1) (μ := upd μ h.length v') (I := I) (w := w') h.length (l ++ ys).length (some ⟨w.heap.size, off, none⟩) cap (by omega) (by rw [Z5, e3]); rw [← e3, List.length_append] at this
              simpa using this) d
            exact ⟨_, _, _, hrun, ⟨_, _, _, fun _ h => h, R2, fun b hb _ => Zy hb _⟩, hK⟩
          have hmax' : l.length + ys.length ≤ maxLen := by simp only [maxLen]; omega
          have hnl : news.length = ys.length * inf.size := by rw [hsz]; exact hcy.1
          by_cases hl0 : l = []
          · subst hl0
            simp only [List.length_nil, Nat.zero_add] at *; have hrg := fun cap hc hm => Z3x (w := w) (e := e) (xs := []) (olds := []) zv.cells hzs hsl (by simp) hcy.1 (by simp) hcy.2.2 R.imm cap hc hm
            cases xa with
            | none =>
              have hrun := run_append_nil (P := P) (w := w) t ty e inf zv hu hinf hzv ad ys.length yc news hnl hcy.2.1 hyl (by omega) (by rw [hby]; omega); refine fin _ _ hrun (Zt w _) (by simp) ?_; have := hrg (grownCap w ys.length 0 e) (by simpa using grownCap_ge w _ _ _) (grownCap_le_maxLen w _ _ _ hmax')
              simpa using this
            | some xad =>
              have hrun := run_append_grow (P := P) (w := w) t ty e inf zv hu hinf hzv xad 0 0 [] (by simp) (by simp) ad ys.length yc news hnl hcy.2.1 (by omega) (by omega)
                (by rw [hby]; exact growslice_fits (by omega) (by simpa using hbytes))
              refine fin _ _ (by simpa using hrun) (Zt w _) (by simp) ?_; have := hrg (grownCap w (0 + ys.length) 0 e) (by simpa using grownCap_ge w _ _ _) (grownCap_le_maxLen w _ _ _ (by simpa using hmax'))
              simpa using this
          · obtain ⟨xad, c2, olds, e2, hcx⟩ := hpl.cellsAt hsl hl0
            injection e2 with e2 _ e3; subst e2
            have hol : olds.length = l.length * inf.size := by rw [hsz]; exact hcx.1
            have hrun := run_append_grow (P := P) (w := w) t ty e inf zv hu hinf hzv xad l.length l.length olds hol hcx.2.1 ad ys.length yc news hnl hcy.2.1 (by omega) (by omega)
              (by rw [hby]; exact growslice_fits (by omega) hbytes)
            refine fin _ _ hrun (Zt w _) (by simp) ?_; exact Z3x (w := w) (e := e) zv.cells hzs hsl hcx.1 hcy.1 hcx.2.2 hcy.2.2 R.imm _ (grownCap_ge w _ _ _) (grownCap_le_maxLen w _ _ _ hmax')
      · exact hk.elim
    · exact hk.elim
  · exact hk.elim
end
end Go.AM
end

section
namespace Go.AM
open Go.RowKit
section
variable {P : Program} {X : Ctx} {I : Nat → Prop} {μ : Nat → Value} {ob : Nat → Option Nat} {w w' : World} {a : Act} {tm : List AV} {h : List AObj} {n : Nat}

theorem Z5m (A : Array Value) (i : Nat) : A.getD i undef = A.toList.getD i undef := by
  simp [Array.getD, List.getD_eq_getElem?_getD]; split <;> simp_all

theorem Zaa (vs : List Value) : ∀ (k off : Nat) (A : List Value),
    ((vs.zipIdx k).foldl (fun cs (c : Value × Nat) => cs.set (off + c.2) c.1) A).length = A.length ∧
    ∀ i, i < A.length → ((vs.zipIdx k).foldl (fun cs (c : Value × Nat) => cs.set (off + c.2) c.1) A).getD i undef = if off + k ≤ i ∧ i < off + k + vs.length then vs.getD (i - (off + k)) undef else A.getD i undef := by
  induction vs with
  | nil => intro k off A; refine ⟨rfl, fun i hi => ?_⟩; rw [if_neg (by simp only [List.length_nil]; omega)]; rfl
  | cons v vs ih =>
    intro k off A; simp only [List.zipIdx_cons, List.foldl_cons]; obtain ⟨h1, h2⟩ := ih (k + 1) off (A.set (off + k) v); refine ⟨by rw [h1]; simp, fun i hi => ?_⟩; rw [h2 i (by simpa using hi)]; by_cases c1 : off + (k + 1) ≤ i ∧ i < off + (k + 1) + vs.length
    · rw [if_pos c1, if_pos (by simp only [List.length_cons]; omega), show i - (off + k) = (i - (off + (k + 1))) + 1 by omega]; simp
    · rw [if_neg c1]
      by_cases c2 : i = off + k
      · subst c2
        rw [if_pos (by simp only [List.length_cons]; omega)]; simp [List.getD_eq_getElem?_getD, hi]
      · rw [if_neg (by simp only [List.length_cons]; omega)]
        simp [List.getD_eq_getElem?_getD, List.getElem?_set_ne (fun e => c2 e.symm)]

theorem Z49 (v : Array Value) (off : Nat) (A : Array Value) :
    (v.zipIdx.foldl (fun cs (c : Value × Nat) => cs.setIfInBounds (off + c.2) c.1) A).toList = (v.toList.zipIdx.foldl (fun cs (c : Value × Nat) => cs.set (off + c.2) c.1) A.toList) := by
  rw [← Array.foldl_toList, Array.toList_zipIdx]; generalize v.toList.zipIdx 0 = L
  induction L generalizing A with
  | nil => rfl
  | cons c L ih => simp only [List.foldl_cons]; rw [ih]; simp

theorem Zad (place : Nat → Option (Nat × Nat)) (s : Nat) : ∀ (vs : List Value) (k : Nat) (A : Array Value), (∀ i, k ≤ i → i < k + vs.length → place i = some (i * s, s)) →
    (∀ v ∈ vs, v.cells.size = s) → (k + vs.length) * s ≤ A.size →
    ∃ B, Instr.fill place A ((List.range' k vs.length).zip vs) = some B ∧ B.size = A.size ∧ ∀ i, i < A.size → B.toList.getD i undef =
      if k * s ≤ i ∧ i < (k + vs.length) * s then (vs.getD (i / s - k) undef).cells.toList.getD (i % s) undef else A.toList.getD i undef
  | [], k, A, _, _, _ => ⟨A, rfl, rfl, fun i _ => by rw [if_neg (by simp only [List.length_nil, Nat.add_zero]; omega)]⟩
  | v :: vs, k, A, hp, hs, hle => by
    have h1 := hp k (Nat.le_refl _) (by simp); have h2 := hs v (by simp); have hk1 : (k + 1 + vs.length) * s ≤ A.size := by
      have e : k + 1 + vs.length = k + (v :: vs).length := by simp only [List.length_cons]; omega
      rw [e]; exact hle
    have hks : k * s + s ≤ A.size := by
      have := Nat.mul_le_mul_right s (show k + 1 ≤ k + 1 + vs.length by omega); rw [Nat.add_mul, Nat.one_mul] at this; omega
    let A' := v.cells.zipIdx.foldl (fun cs (c : Value × Nat) => cs.setIfInBounds (k * s + c.2) c.1) A
    have hA' : A'.toList = _ := Z49 v.cells (k * s) A; obtain ⟨f1, f2⟩ := Zaa v.cells.toList 0 (k * s) A.toList; have hsz : A'.size = A.size := by rw [← Array.length_toList, hA', f1, Array.length_toList]
    obtain ⟨B, e1, e2, e3⟩ := Zad place s vs (k + 1) A' (fun i hi hi' => hp i (by omega) (by simp only [List.length_cons]; omega)) (fun u hu => hs u (by simp [hu])) (by rw [hsz]; exact hk1); refine ⟨B, ?_, e2.trans hsz, fun i hi => ?_⟩
    · simp only [List.length_cons, List.range'_succ, List.zip_cons_cons, Instr.fill, h1, h2]
      rw [if_neg (by simp only [ne_eq, not_true_eq_false, Bool.or_eq_true, decide_eq_true_eq, false_or]; omega)]; exact e1
    · rw [e3 i (by rw [hsz]; exact hi), hA', f2 i (by simpa using hi)]
      have h0 : 0 < s ∨ s = 0 := by omega
      have hl : (v :: vs).length = vs.length + 1 := rfl; have hm : (k + (v :: vs).length) * s = (k + 1 + vs.length) * s := by rw [hl]; congr 1; omega
      rw [hm]; have hk1' : (k + 1) * s = k * s + s := by rw [Nat.add_mul, Nat.one_mul]
      by_cases c1 : (k + 1) * s ≤ i ∧ i < (k + 1 + vs.length) * s
      · rw [if_pos c1, if_pos (by omega)]
        have hs0 : 0 < s := by
          rcases h0 with h | h
          · exact h
          · subst h; simp at c1
        have : k + 1 ≤ i / s := (Nat.le_div_iff_mul_le hs0).2 c1.1; rw [show i / s - k = (i / s - (k + 1)) + 1 by omega]; simp
      · rw [if_neg c1]
        simp only [Nat.add_zero, Array.length_toList, h2]; by_cases c2 : k * s ≤ i ∧ i < k * s + s
        · rw [if_pos c2]
          have hle' : (k + 1) * s ≤ (k + 1 + vs.length) * s := Nat.mul_le_mul_right _ (by omega); rw [if_pos (by omega)]; have hs0 : 0 < s := by omega
          have hd : i / s = k := by
            have h2 : k ≤ i / s := (Nat.le_div_iff_mul_le hs0).2 c2.1; have h3 : i / s < k + 1 := (Nat.div_lt_iff_lt_mul hs0).2 (by rw [hk1']; exact c2.2); omega
          have hmod : i % s = i - k * s := by
            have := Nat.div_add_mod i s; rw [hd, Nat.mul_comm] at this; omega
          rw [hd, Nat.sub_self, hmod]; rfl
        · rw [if_neg c2, if_neg (by omega)]

/-! a slice literal -/
def Z29 : Nat → List (Nat × AV) → Option (List PV)
  | _, [] => some []
  | k, (i, v) :: l => if i = k then (match v.pure, Z29 (k + 1) l with
    | some p, some ps => some (p :: ps)
    | _, _ => none) else none

theorem Z94 {α β : Type} (l : List (α × β)) : (l.map (·.1)).zip (l.map (·.2)) = l := by
  induction l with
  | nil => rfl
  | cons c l ih => simp only [List.map_cons, List.zip_cons_cons]; rw [ih]

theorem Z31 : ∀ (k : Nat) (L : List (Nat × AV)) (ps : List PV), Z29 k L = some ps → L.map (·.1) = List.range' k ps.length ∧ L.length = ps.length ∧
    ∀ i, i < L.length → AV.pure (List.getD (L.map fun x : Nat × AV => x.2) i AV.junk) = some (ps.getD i default)
  | k, [], ps, h => by simp only [Z29, Option.some.injEq] at h; subst h; simp
  | k, (i, v) :: l, ps, h => by
    simp only [Z29] at h
    split at h
    · rename_i hik; subst hik
      split at h
      · rename_i p ps' hp hps
        simp only [Option.some.injEq] at h; subst h; obtain ⟨e1, e2, e3⟩ := Z31 _ l ps' hps; refine ⟨by simp [e1, List.range'_succ], by simp [e2], fun j hj => ?_⟩
        cases j with
        | zero => simpa using hp
        | succ j => simpa using e3 j (by simpa using hj)
      · cases h
    · cases h

def bsK (Γ : Gam) (tm : List AV) (h : List AObj) (d : Option Nat) (t : TypeId) (len : Nat) (parts : List (Nat × AV)) (K : St → Prop) : Prop :=
  tyAt Γ t fun te => (match te.td with
    | .slice e => tyAt Γ e fun ee => (match Z29 0 parts with
      | some ps => (ps.length = len ∧ ee.zero.isSome = true ∧ Zp ps ee.cells ∧ len * ee.cells ≤ 16777216) ∧ K ⟨putD tm d (.full ps), h⟩
      | none => False)
    | _ => False)

theorem bs_ok {Γ : Gam} (hΓ : Zg P Γ) {t : TypeId} {len : Nat} {parts : List (Nat × AV)} {cparts : List (Nat × Value)} {d : Option Nat} {K : St → Prop} (R : Rep X I μ ob ⟨tm, h⟩ w a)
    (hl : parts.map (·.1) = cparts.map (·.1)) (hv : ∀ i, i < parts.length → VR h.length μ I w ((parts.map (·.2)).getD i .junk) ((cparts.map (·.2)).getD i undef))
    (hk : bsK Γ tm h d t len parts K) : StepOK P X I μ h.length (Instr.buildSlice t len cparts.toArray) w a d K := by
  unfold bsK at hk; obtain ⟨te, ht, hk⟩ := hk.get
  split at hk
  · rename_i e he
    obtain ⟨ee, hee, hk⟩ := hk.get
    split at hk
    · rename_i ps hps
      obtain ⟨⟨hlen, hz, hsz, hcells⟩, hK⟩ := hk; obtain ⟨dd, hu, hd, _⟩ := (hΓ _ _ ht).desc; rw [he] at hd; simp only [Z7] at hd; subst hd; obtain ⟨inf, hinf, hisz, _, hzero⟩ := (hΓ _ _ hee).info; obtain ⟨z, hz'⟩ := Option.isSome_iff_exists.1 hz; obtain ⟨zv, hzv, _, hzs⟩ := hzero z hz'; obtain ⟨p1, p2, p3⟩ := Z31 0 parts ps hps; have hpl : cparts.length = parts.length := by have := congrArg List.length hl; simpa using this.symm
      have hvp : ∀ i, i < ps.length → PR I w (ps.getD i default) ((cparts.map (·.2)).getD i undef) := fun i hi => (hv i (by omega)).pure (p3 i (by omega))
      have hcs : ∀ v ∈ cparts.map (·.2), v.cells.size = ee.cells := by
        intro v hv'; obtain ⟨i, hi, rfl⟩ := List.getElem_of_mem hv'; have hi' : i < ps.length := by simp only [List.length_map] at hi; omega
        have h1 := VR.p (n := 0) (μ := μ) _ _ (hvp i hi'); have e1 : (cparts.map (·.2)).getD i undef = (cparts.map (·.2))[i] := by simp only [List.getD_eq_getElem?_getD, List.getElem?_eq_getElem hi, Option.getD_some]
        rw [e1] at h1; have hs := hsz (ps.getD i default) (by rw [List.getD_eq_getElem?_getD, List.getElem?_eq_getElem hi', Option.getD_some]; exact List.getElem_mem _); have hcl : ∃ L, (AV.p (ps.getD i default)).cellL = some L ∧ L.length = (ps.getD i default).cells.length := by
          cases ps.getD i default with
          | agg l => exact ⟨l.map .p, rfl, by simp [PV.cells]⟩
          | _ => exact ⟨_, rfl, rfl⟩
        obtain ⟨L, hL, hLl⟩ := hcl; obtain ⟨hs1, _⟩ := h1.cellL hL; omega
      have hinit : ∀ m : Nat, ((Array.range m).map fun i => zv.cells[i % zv.cells.size]!).size = m := fun m => by simp
      have hzip : cparts = (List.range' 0 (cparts.map (·.2)).length).zip (cparts.map (·.2)) := by
        have h1 : cparts.map (·.1) = List.range' 0 (cparts.map (·.2)).length := by rw [← hl, p1]; congr 1; simp only [List.length_map]; omega
        rw [← h1]; exact (Z94 cparts).symm
      have hll : (cparts.map (·.2)).length = len := by simp only [List.length_map]; omega
      -- the cells
      have hrun : ∃ B : Array Value, B.size = len * ee.cells ∧ (∀ i, i < len * ee.cells → B.toList.getD i undef = ((cparts.map (·.2)).getD (i / ee.cells) undef).cells.toList.getD (i % ee.cells) undef) ∧
          (Instr.buildSlice t len cparts.toArray).run P w = .ok (.slice (some ⟨w.heap.size, 0, none⟩) len len) (w.alloc (.cells B e)) := by
        let init : Array Value := if len * ee.cells = 0 then (Array.range (len * ee.cells)).map (fun i => (#[] : Array Value)[i % (#[] : Array Value).size]!) else (Array.range (len * ee.cells)).map (fun i => zv.cells[i % zv.cells.size]!)
        have hsi : init.size = len * ee.cells := by
          show (if _ then _ else _ : Array Value).size = _
          split <;> simp
        obtain ⟨B, b1, b2, b3⟩ := Zad (fun i => some (i * ee.cells, ee.cells)) ee.cells (cparts.map (·.2)) 0 init (fun _ _ _ => rfl) hcs (by rw [hll, hsi]; simp); rw [← hzip] at b1; refine ⟨B, b2.trans hsi, fun i hi => ?_, ?_⟩
        · rw [b3 i (by rw [hsi]; exact hi), if_pos (by rw [hll]; simpa using hi)]; simp
        · have hgt : ¬ (2 ^ 24 < len * ee.cells) := by omega
          by_cases h0 : len * ee.cells = 0
          · have e0 : init = #[] := Array.eq_empty_of_size_eq_zero (by rw [hsi]; exact h0)
            rw [e0] at b1; simp only [Instr.buildSlice, Sem.run_bind, run_underlying hu, Result.andThen, sizeOf, typeInfo, run_program, hinf, Sem.run_pure, hisz, gt_iff_lt, h0, if_true]; simp [Array.range_zero', b1, newRow]
          · have e0 : init = (Array.range (len * ee.cells)).map (fun i => zv.cells[i % zv.cells.size]!) := if_neg h0
            rw [e0] at b1; simp only [Instr.buildSlice, Sem.run_bind, run_underlying hu, Result.andThen, sizeOf, typeInfo, run_program, hinf, Sem.run_pure, hisz, gt_iff_lt, hgt, if_false, h0, zeroValue, hzv]; simp only [b1]; simp [newRow]
      obtain ⟨B, hB, hBc, hrun⟩ := hrun; have hg : w.grownBy (w.alloc (.cells B e)) none := World.grownBy_alloc w _ none; have R1 := R.grow (I' := fun g => I g ∨ g = w.heap.size) hg (fun g h => .inl h) (fun g h => h.elim .inl (fun e => .inr (by subst e; simp))); have hnew := heap_alloc_new w (.cells B e); have hpr : PR (fun g => I g ∨ g = w.heap.size) (w.alloc (.cells B e)) (.sl ps) (.slice (some ⟨w.heap.size, 0, none⟩) len len) := by
        by_cases h0 : ps = []
        · subst h0; have : len = 0 := by simpa using hlen.symm
          subst this; exact .sl0 _ _ (by simp)
        · have := PR.sl (I := fun g => I g ∨ g = w.heap.size) (w := w.alloc (.cells B e)) ps ee.cells w.heap.size 0 len B e (0, 0) (fun j => B.toList.getD j undef) h0 (.inr rfl) hnew (by omega) hsz
            (fun j hj => by
              have hj' : j < B.size := by rw [hB, ← hlen]; exact hj
              simp [List.getD_eq_getElem?_getD, hj'])
            (fun i j hi hj => by
              have hj2 : i * ee.cells + j < len * ee.cells := by
                have := Nat.mul_le_mul_right ee.cells (show i + 1 ≤ len by omega); rw [Nat.add_mul, Nat.one_mul] at this; omega
              rw [hBc _ hj2]; have hd : (i * ee.cells + j) / ee.cells = i := by
                rw [Nat.mul_comm, Nat.mul_add_div (by omega), Nat.div_eq_of_lt hj]; rfl
              have hm : (i * ee.cells + j) % ee.cells = j := by rw [Nat.mul_comm, Nat.mul_add_mod]; exact Nat.mod_eq_of_lt hj
              rw [hd, hm]; have h1 := VR.p (n := 0) (μ := μ) _ _ (hvp i hi); have hs := hsz (ps.getD i default) (by rw [List.getD_eq_getElem?_getD, List.getElem?_eq_getElem hi, Option.getD_some]; exact List.getElem_mem _); have hcl : ∃ L, (AV.p (ps.getD i default)).cellL = some L ∧ L.length = (ps.getD i default).cells.length ∧ ∀ q, q < L.length → L.getD q .junk = .p ((ps.getD i default).cells.getD q default) := by
                cases ps.getD i default with
                | agg l => exact ⟨l.map .p, rfl, by simp [PV.cells], fun q hq => Z0n l q (by simpa using hq)⟩
                | _ => exact ⟨_, rfl, rfl, fun q hq => by
                    have : q = 0 := by simpa using hq
                    subst this; rfl⟩
              obtain ⟨L, hL, hLl, hLg⟩ := hcl; obtain ⟨_, hs2⟩ := h1.cellL hL; have h3 := hs2 j (by omega); rw [hLg j (by omega), Z5m] at h3
              cases h3 with
              | p _ _ h3 => exact h3.mono (fun _ h => .inl h) (fun g hg' => hg.block g (R.imm g hg') (by simp)))
          rwa [hlen] at this
      have R2 := R1.put (v := .full ps) (cv := .slice (some ⟨w.heap.size, 0, none⟩) len len) (by rw [← hlen]; exact .full ps _ (by rw [hlen]; exact hpr)) d; exact ⟨_, _, _, hrun, ⟨_, _, _, fun _ h => .inl h, R2, fun _ _ _ => rfl⟩, hK⟩
    · exact hk.elim
  · exact hk.elim
end
end Go.AM
end

