/-
  Texts of this claim, joined.
-/
import Derived.Test.YtnilegembmcelaaDoorJ7b26b6f35787
import Derived.LaidMore
import Derived.OpenShut
import Derived.LaidHandle
import Derived.Stop.Joined
import Derived.Test.YtnilegembmcelaaDoorJ75ab21772372
import Derived.Test.YtnilegembmcelaaDoorJff1b1cd1c358

set_option linter.unusedSimpArgs false
set_option linter.unusedVariables false
section
namespace Go.AM
open Go.RowKit Go.ChangeShapes

theorem Z7s {P : Program} {W : World} {name : String} {g n fuel : Nat} {t e : TypeId} {k : IntKind} {nums : List Int} {cs : Array Value} {p : List MemPlace} (hg : P.globalNamed name = some g)
    (hv : W.var? P name = some cs) (ha : P.underlying t = some (.array n e)) (he : P.underlying e = some (.int k)) (hc : P.cellsOf e = 1)
    (hd : DataW.trod (fun _ => ()) P W 0 (fun _ => true) false fuel t cs.toList = some (.agg (nums.map fun x => .lit (.int k x)), p)) :
    (0 < nums.length → g < W.heap.size ∧ ∃ (cur : Array Value) (E : TypeId) (fz : Nat × Nat), W.heap[g]? = some (.cells cur E fz) ∧ ∀ j, j < nums.length → cur[j]? = some (.int k (nums.getD j 0))) := by
  intro hpos; obtain ⟨xs, m, _, hx, hlen, hn, hel⟩ := DataW.trod_array ha hd; simp only [Prod.mk.injEq, DataW.agg.injEq] at hx; have hxl : xs.length = nums.length := by
    have := congrArg List.length hx.1
    simpa using this.symm
  have cell : ∀ j, j < nums.length → cs[j]? = some (.int k (nums.getD j 0)) := fun j hj => by
    have h1 := hel j (by omega); rw [hc, Nat.mul_one, List.getElem?_eq_getElem (by omega)] at h1; obtain ⟨r, e1, e2, _⟩ := DataW.trod_int he h1; have h2 : nums[j]? = some r := by
      have h3 := congrArg (fun l => l[j]?) hx.1; simp only [List.getElem?_map, List.getElem?_eq_getElem (show j < xs.length by omega), List.getElem?_eq_getElem hj, Option.map_some, Option.some.injEq] at h3; rw [e2] at h3; simp only [DataW.lit.injEq, Lit.int.injEq, true_and] at h3; rw [List.getElem?_eq_getElem hj, h3]
    have h4 : (cs.toList.drop j)[0]? = some (.int k r) := by
      have h5 := congrArg (fun l => l[0]?) e1; simp only [List.getElem?_take_of_lt Nat.one_pos] at h5
      simpa using h5
    rw [List.getElem?_drop, Nat.add_zero, Array.getElem?_toList] at h4; rw [h4, List.getD_eq_getElem?_getD, h2]; rfl
  have h0 := World.var?_cell hg hv; obtain ⟨cur, E, fz, h1, _, h2⟩ := cell?_some ((h0 0).trans (cell 0 hpos)); refine ⟨(Array.getElem?_eq_some_iff.1 h1).1, cur, E, fz, h1, fun j hj => ?_⟩; obtain ⟨cur', E', fz', h3, _, h4⟩ := cell?_some ((h0 j).trans (cell j hj)); simp only at h1 h3 h4; rw [h1] at h3
  injection h3 with h3
  injection h3 with h3
  rw [h3]; exact h4

section
variable {H : Type} {enc : TypeId × Value → H}
theorem liftL {C : Checked} {os : Os} {f : FuncId} {fn : Func} {s : ChangeSpec} {conds : List PathCond} {fresh handsOn : Bool} {shs : List Sh} {tb : TypeId} {laidL : List (String × DataW Unit)}
    (own : ownKnob C.prog.godebug = none) (laid : laidOutB C.prog = true) (started : os.Started) (noInit : C.prog.inits.idxOf? f = none) (hfn : C.prog.funcs[f]? = some fn)
    (witness : ∃ (w : World) (tape : Tape) (i : Input), w.os = os ∧ (w.forCall tape i).Shaped C.prog ∧ i.vars = [] ∧ Input.okWide C.prog (w.forCall tape i) .any w.heap.size f i ∧
      ((s.pre enc C.prog fn conds false (w.forCall tape i).memory i.args ∧ laidMetH C.prog laidL (w.forCall tape i).memory) ∧ sizedMet enc C.prog fn (OpenSpec.ofChange s) false (w.forCall tape i).memory i.args) ∧ ({} : Assume).holds C.prog (lone (Frame.enter C.prog f i.args .normal) [] (w.forCall tape i)))
    (hlaid : ∀ W : World, laidMetH C.prog laidL W → Laid (fun g => g < W.heap.size) W)
    (hsh : fn.params.toList.map (shB C.prog 9) = shs.map some) (hread : fn.params.toList.all (fun t => C.prog.readableRec t && decide (t < C.prog.types.size)) = true)
    (hres : fn.resultTypes = #[tb]) (hb : C.prog.underlying tb = some .bool) (hvars : s.vars = [])
    (hs : ∀ ds : List (DataW H), ds.length = fn.params.toList.length → s.fn H (ds ++ []) = { results := [.lit (.bool true)], args := ds })
    (h : ∀ pv, Fits shs pv → PFn C.prog f pv [.bool true]) :
    ReturnsInHanded {} C os f .any (fun w args => (s.pre enc C.prog fn conds false w args ∧ laidMetH C.prog laidL w) ∧ sizedMet enc C.prog fn (OpenSpec.ofChange s) false w args) (s.post enc C.prog fn false fresh handsOn false) := by
  refine returnsInHanded_of_change_and (X := fun w _ => laidMetH C.prog laidL w) (fun _ _ _ hh h => h.of_heap hh) own started noInit hfn witness ?_; intro W base args ds gs before hval hW _ _ hL _; have hW' := hW; obtain ⟨p, q, hA, hV, hpq, _, _⟩ := hW; rw [hvars] at hV; obtain ⟨rfl, rfl⟩ := trodVars_none hV; rw [List.append_nil] at hpq; subst hpq; obtain ⟨pv, k1, k2, k3⟩ := Z8c (ts := fn.params.toList) hA hsh (fun j t v hj hv => hval j t v (by rw [← Array.getElem?_toList]; exact hj) (by rw [← Array.getElem?_toList]; exact hv)); have hc := (h pv k1).2 (fun g => g < W.heap.size) W args.toList (fun _ hg => hg) (hlaid W hL) k2 (fun i hi => k3 i hi); refine hc.mono ?_; rintro e W' ⟨cv, I', rfl, hg, _, _, hv⟩; have hcv : cv = .bool true := by
    cases hv with
    | p _ _ h => cases h; rfl
  subst hcv; have hbel : Below W.heap.size W W' := ⟨hg.os, hg.tape, hg.output, hg.size, fun k hk => hg.block k hk (by simp)⟩; have hlen : ds.length = fn.params.toList.length := by
    have : ∀ {ts : List TypeId} {vs : List Value} {ds : List (DataW H)} {ps : List MemPlace}, DataW.TrodAll enc C.prog W 0 (fun _ => true) true ts vs ds ps → ds.length = ts.length := by
      intro ts
      induction ts with
      | nil => intro vs ds ps h; obtain ⟨rfl, rfl, rfl⟩ := trodAll_nil h; rfl
      | cons t ts ih => intro vs ds ps h; obtain ⟨v, vs1, d, ds1, a, b, rfl, rfl, rfl, _, h2⟩ := trodAll_cons h; simp [ih h2]
    exact this hA
  have hlt : ∀ x ∈ before, x.block < W.heap.size := fun x hx => hW'.lt x hx
  refine ⟨_, rfl, ds, [], before, [], before, [], hW', ?_, ?_, ?_, hbel.frame _, fun h => by cases h⟩
  · rw [hs ds hlen, hres]
    exact trodAll_mk1 (shut_bool hb true)
  · rw [hs ds hlen]
    exact Z2g laid hbel hA hread hlt
  · rw [hs ds hlen, hvars]; rfl
end
end Go.AM
end

section
namespace Go.AM
open Go.RowKit


theorem Rep.adoptBox {X : Ctx} {I : Nat → Prop} {μ : Nat → Value} {ob : Nat → Option Nat} {w : World} {st : St} {a : Act} {l : List PV} (R : Rep X I μ ob st w a) (c : Nat) (E : TypeId) (s : Nat)
    (hc : st.h[c]? = some (.box [.full l])) (hs : ∀ x ∈ l, x.cells.length = s) : ∃ v, Rep X I (upd μ st.h.length v) (upd ob st.h.length none) ⟨st.tmps, st.h.set c (.box [.own st.h.length l.length]) ++ [.row E s l .lax]⟩ w a := by
  have hlt : c < st.h.length := (List.getElem?_eq_some_iff.1 hc).1; obtain ⟨g, T, cur, h1, h2, h3, h4, h5⟩ := R.objs _ _ hc; have hv := h5 0 (by simp); simp only [List.getD_cons_zero] at hv; generalize hcv : cur.getD 0 undef = cv at hv
  cases hv with
  | full _ ad h =>
    have R1 := R.toRepH.name (World.grownBy.refl w none) (v := .slice ad l.length l.length) (g := none) (o := .row E s l .lax) (by simp) ⟨hs, .inr ⟨rfl, Z5 _ _ _, ad, Z5 _ _ _, by rw [Z5]; exact h⟩⟩; have hne : c ≠ st.h.length := by omega
    have R2 := R1.write (b0 := c) (g0 := g) (o := .box [.own st.h.length l.length]) (by simp; omega) (by rw [Z2 _ _ hne]; exact h1) (World.grownBy.refl w (some g))
      ⟨g, T, cur, by rw [Z2 _ _ hne]; exact h1, by rw [Z2 _ _ hne]; exact h2, h3, by simpa using h4, fun i hi => by
        have : i = 0 := by simpa using hi
        subst this; rw [hcv]; exact .own _ _ _ _ (by simp) (Z5 _ _ _)⟩
    rw [List.set_append_left _ _ hlt] at R2; refine ⟨_, { toRepH := R2, size := R.size, tmps := fun j hj => (R.tmps j hj).mono (by simp) (fun b hb => Z2 _ _ (by omega)) (fun _ h => h) (fun _ _ => rfl), marks := ?_ }⟩; obtain ⟨rs, m1, m2, m3⟩ := R.marks; refine ⟨rs, m1, m2, fun q hq => ?_⟩; obtain ⟨e1, e2, e3, e4⟩ := m3 q hq; refine ⟨e1, e2, e3, fun b hb => ?_⟩; by_cases e : b = st.h.length
    · subst e; rw [Z5] at hb; cases hb
    · rw [Z2 _ _ e] at hb; exact e4 b hb

theorem AWp.adoptBox {E : Env} {r : Option Nat} {c : Code} {Q : Exit → St → Prop} {tm : List AV} {h : List AObj} {l : List PV} (b : Nat) (t : TypeId) (s : Nat) (hb : h[b]? = some (.box [.full l])) (hs : ∀ x ∈ l, x.cells.length = s)
    (hw : AWp E r c Q ⟨tm, h.set b (.box [.own h.length l.length]) ++ [.row t s l .lax]⟩) : AWp E r c Q ⟨tm, h⟩ := fun X I w a hE ⟨I', μ', ob', hI, R⟩ => by
  obtain ⟨v, R'⟩ := R.adoptBox b t s hb hs; exact hw X I w a hE ⟨I', _, _, hI, R'⟩

theorem Z1r (h : List AObj) : Z4j h h := (Weak.refl ⟨[], h⟩).2


/-! ### What is struck before an operation is struck behind it -/
def jkO : List Oper → List AV → List AV
  | [], tm => tm
  | o :: l, tm => jkO l (putD tm o.dst .junk)

theorem Zdd (tm : List AV) (d d' : Option Nat) : putD (putD tm d .junk) d' .junk = putD (putD tm d' .junk) d .junk := by
  cases d with
  | none => rfl
  | some d => cases d' with
    | none => rfl
    | some d' =>
      by_cases e : d = d'
      · subst e; rfl
      · exact List.set_comm _ _ e
theorem Z3o : ∀ (l : List Oper) (tm : List AV) (d : Option Nat), jkO l (putD tm d .junk) = putD (jkO l tm) d .junk
  | [], _, _ => rfl
  | o :: l, tm, d => by
    show jkO l (putD (putD tm d .junk) o.dst .junk) = putD (jkO l (putD tm o.dst .junk)) d .junk; rw [Zdd, Z3o l]
theorem Z3p {t : Nat} : ∀ {l : List Oper} {tm : List AV}, (∀ o ∈ l, o.dst ≠ some t) → (jkO l tm).getD t .junk = tm.getD t .junk
  | [], _, _ => rfl
  | o :: l, tm, h => by
    show (jkO l (putD tm o.dst .junk)).getD t .junk = _; rw [Z3p (fun x hx => h x (by simp [hx])), Z3l (fun x hx e => h o (by simp) (by rw [hx, e]))]
theorem Z62 (tm : List AV) (d : Option Nat) (v w : AV) : putD (putD tm d v) d w = putD tm d w := by
  cases d with
  | none => rfl
  | some d => simp [putD]
theorem Z9d {tm : List AV} {d : Nat} {v : AV} (h : tm.getD d .junk = v) : putD tm (some d) v = tm := by
  apply List.ext_getElem?
  intro i; simp only [putD, List.getElem?_set]
  split
  · subst_vars
    split
    · rename_i hl
      rw [List.getD_eq_getElem?_getD, List.getElem?_eq_getElem hl]; rfl
    · rename_i hl; rw [List.getElem?_eq_none (by omega)]
  · rfl
theorem Z7o : ∀ (d : Option Nat) (tm : List AV), Z6v tm (putD tm d .junk)
  | none, tm => Z2w tm
  | some _, [] => trivial
  | some 0, _ :: l => ⟨.inl rfl, Z2w l⟩
  | some (d + 1), _ :: l => ⟨.inr rfl, Z7o (some d) l⟩
theorem Zz {tm : List AV} {d : Option Nat} {v : AV} {x : Operand} (h : ∀ t, x = .tmp t → d ≠ some t) : ev (putD tm d v) x = ev tm x := by
  cases x with
  | tmp t => exact Z3l (fun y hy e => h t rfl (by rw [hy, e]))
  | _ => rfl
theorem Z58 {f : AV → AV} (hf : f .junk = .junk) (tm : List AV) (d : Option Nat) : (putD tm d .junk).map f = putD (tm.map f) d .junk := by
  cases d with
  | none => rfl
  | some d => simp only [putD, List.map_set, hf]
theorem Z1m (d : Option Nat) : ∀ (ks : List Nat) (tm : List AV), Zc ks (putD tm d .junk) = putD (Zc ks tm) d .junk
  | [], _ => rfl
  | k :: ks, tm => by
    show Zc ks ((putD tm d .junk).map (AV.kill k)) = putD (Zc ks (tm.map (AV.kill k))) d .junk; rw [Z58 rfl, Z1m d ks]

def natO (o : Oper) : Bool := match o.op with
  | .call c => (match c.callee with | .value _ => true | .builtin .append => true | _ => false)
  | .store _ _ _ => true
  | .alloc _ => true
  | .makeSlice _ _ _ => true
  | .box _ _ => true
  | .buildSlice _ _ _ => true
  | .binOp _ _ _ _ _ => true
  | .makeMap _ none => true
  | .insert _ _ _ _ => true
  | _ => false

section
variable {E : Env} {tm tm' : List AV} {h : List AObj} {K K' : St → Prop} {d j : Option Nat} {Γ : Gam} {t : TypeId}

theorem Zbx {f : AV} {args : List AV} (hd : ∀ x, j = some x → d ≠ some x) (hk : Z2u E ⟨tm, h⟩ d f args K) : Z2u E ⟨putD tm j .junk, h⟩ d f args (fun s => ∃ s', K s' ∧ s = ⟨putD s'.tmps j .junk, s'.h⟩) := by
  unfold Z2u at hk ⊢
  split at hk
  · rcases hk with ⟨ks, R, h1, h2, h3⟩ | ⟨v, h1, h2⟩
    · exact .inl ⟨ks, R, h1, h2, fun v h' hr => ⟨_, h3 v h' hr, by simp only [Z1m]; rw [Zx _ _ hd]⟩⟩
    · exact .inr ⟨v, h1, _, h2, by simp only; rw [Zx _ _ hd]⟩
  · obtain ⟨ks, R, h1, h2, h3⟩ := hk
    exact ⟨ks, R, h1, h2, fun v h' hr => ⟨_, h3 v h' hr, by simp only [Z1m]; rw [Zx _ _ hd]⟩⟩
  · exact hk.elim

theorem Zc1 {n0 : Nat} {ks : List Nat} {x y : AV} (h1 : ∀ b v h', K ⟨putD (tm.map (AV.kill b)) d v, h'⟩ → K' ⟨putD (tm'.map (AV.kill b)) d v, h'⟩) (h2 : ∀ v h', K ⟨putD tm d v, h'⟩ → K' ⟨putD tm' d v, h'⟩)
    (hk : appK Γ n0 ks tm h d t x y K) : appK Γ n0 ks tm' h d t x y K' := by
  unfold appK at hk ⊢; obtain ⟨te, ht, hk⟩ := hk.get; rw [Zh ht]
  split at hk
  · rename_i e he
    obtain ⟨ee, hee, hk⟩ := hk.get
    try simp only [he]
    rw [Zh hee]
    split at hk
    · rename_i ys hys
      try simp only [hys]
      obtain ⟨h0, hk⟩ := hk; refine ⟨h0, ?_⟩
      split at hk
      · split at hk
        · rename_i hb
          try simp only [hb]
          exact ⟨hk.1, h1 _ _ _ hk.2⟩
        · exact hk.elim
      · exact ⟨hk.1, h2 _ _ hk.2⟩
      · exact hk.elim
    · exact hk.elim
  · exact hk.elim

theorem Z8k {x y : AV} (h1 : ∀ h', K ⟨tm, h'⟩ → K' ⟨tm', h'⟩) (hk : Z18 Γ tm h t x y K) : Z18 Γ tm' h t x y K' := by
  unfold Z18 at hk ⊢; obtain ⟨te, ht, hk⟩ := hk.get; rw [Zh ht]
  split at hk
  · split at hk
    · rename_i hb hl
      try simp only [hb, hl]
      exact ⟨hk.1, h1 _ hk.2⟩
    · exact hk.elim
  · split at hk
    · rename_i hb hl
      try simp only [hb, hl]
      exact ⟨hk.1, h1 _ hk.2⟩
    · exact hk.elim
  · exact hk.elim

theorem Z8g {x : AV} (h2 : ∀ v h', K ⟨putD tm d v, h'⟩ → K' ⟨putD tm' d v, h'⟩) (hk : boxK tm h d x K) : boxK tm' h d x K' := by
  unfold boxK at hk ⊢
  split at hk
  · rename_i hl; (try simp only [hl]); exact h2 _ _ hk
  · exact hk.elim
theorem Z91 (h2 : ∀ v h', K ⟨putD tm d v, h'⟩ → K' ⟨putD tm' d v, h'⟩) (hk : allocK Γ tm h d t K) : allocK Γ tm' h d t K' := by
  unfold allocK at hk ⊢; obtain ⟨te, ht, hk⟩ := hk.get; rw [Zh ht]
  split at hk
  · rename_i hz; (try simp only [hz]); exact Z8g h2 hk
  · exact hk.elim
theorem Zbn {l c : AV} (h2 : ∀ v h', K ⟨putD tm d v, h'⟩ → K' ⟨putD tm' d v, h'⟩) (hk : mkSK Γ tm h d t l c K) : mkSK Γ tm' h d t l c K' := by
  unfold mkSK at hk ⊢
  split at hk
  · obtain ⟨te, ht, hk⟩ := hk.get
    rw [Zh ht]
    split at hk
    · rename_i e he
      obtain ⟨ee, hee, hk⟩ := hk.get
      try simp only [he]
      rw [Zh hee]
      split at hk
      · rename_i hz; (try simp only [hz]); exact ⟨hk.1, h2 _ _ hk.2⟩
      · exact hk.elim
    · exact hk.elim
  · exact hk.elim

theorem Zim (v : AV) (s : St) : fz1 v ⟨putD s.tmps j .junk, s.h⟩ = ⟨putD (fz1 v s).tmps j .junk, (fz1 v s).h⟩ := by
  unfold fz1
  split
  · simp only
    split
    · simp only [Z0c]; rw [Z58 rfl]
    · rfl
  · rfl
theorem Z8a : ∀ (l : List AV) (s : St), fzL l ⟨putD s.tmps j .junk, s.h⟩ = ⟨putD (fzL l s).tmps j .junk, (fzL l s).h⟩
  | [], _ => rfl
  | v :: l, s => by
    show fzL l (fz1 v _) = _; rw [Zim, Z8a l]; rfl

theorem Z5t {s : St} {x y : Operand} {K K' : St → Prop} (hx : ∀ t, x = .tmp t → j ≠ some t) (hy : ∀ t, y = .tmp t → j ≠ some t) (h1 : ∀ h', K ⟨s.tmps, h'⟩ → K' ⟨putD s.tmps j .junk, h'⟩) (hk : Z2h Γ s t x y K) : Z2h Γ ⟨putD s.tmps j .junk, s.h⟩ t x y K' := by
  unfold Z2h at hk ⊢; simp only [Zz hx, Zz hy]; exact Z8k h1 hk

theorem Z4t {neg : Bool} {x : AV} {K K' : AV → Prop} (h1 : ∀ v, K v → K' v) (hk : Z0b Γ t neg x h K) : Z0b Γ t neg x h K' := by
  unfold Z0b at hk ⊢; refine ⟨hk.1, ?_⟩; have hk := hk.2
  split at hk
  · exact h1 _ hk
  · split at hk
    · rename_i hl; (try simp only [hl]); exact h1 _ hk
    · rename_i hl; (try simp only [hl]); exact ⟨h1 _ hk.1, h1 _ hk.2⟩
    · exact hk.elim
theorem Z8z (P : Program) {op : BinOp} {x ey : AV} {y : Operand} {K K' : AV → Prop} (h1 : ∀ v, K v → K' v) (hk : Z4g Γ op t x y ey h K) : Z4g Γ op t x y ey h K' := by
  have hA : ∀ {K K' : AV → Prop}, (∀ v, K v → K' v) → binA Γ op t x ey K → binA Γ op t x ey K' := fun {K K'} h1 hk => by
    have hd := Z30 { P := P, Γ := Γ, n0 := 0, ks := [] } (.binOp op t (.tmp 0) (.tmp 1) 0) h (ev [x, ey]); obtain ⟨v, hv, hF⟩ := hd K hk; exact hF K' (h1 v hv)
  unfold Z4g at hk ⊢
  split at hk
  · exact Z4t h1 hk
  · exact Z4t h1 hk
  · exact hA h1 hk

theorem Zb7 {x i y : AV} (h1 : ∀ h', K ⟨tm, h'⟩ → K' ⟨tm', h'⟩) (hk : updK Γ tm h t x i y K) : updK Γ tm' h t x i y K' := by
  unfold updK at hk ⊢
  split at hk
  · rename_i b s pv hpv
    try simp only [hpv]
    obtain ⟨te, ht, hk⟩ := hk.get; rw [Zh ht]
    split at hk
    · rename_i k e he
      try simp only [he]
      refine ⟨hk.1, ?_⟩; have hk := hk.2
      split at hk
      · rename_i hb; (try simp only [hb]); exact h1 _ hk
      · exact hk.elim
    · exact hk.elim
  · rename_i b kd s pv hpv
    try simp only [hpv]
    unfold Zd0 at hk ⊢; refine ⟨hk.1, ?_⟩; have hk := hk.2; obtain ⟨te, ht, hk⟩ := hk.get; rw [Zh ht]
    split at hk
    · rename_i k e he
      try simp only [he]
      refine ⟨hk.1, ?_⟩; have hk := hk.2
      split at hk
      · rename_i hb; (try simp only [hb]); exact h1 _ hk
      · exact hk.elim
    · exact hk.elim
  · exact hk.elim

theorem Zhq {o : Oper} (hn : natO o = true) (hd : ∀ x, j = some x → o.dst ≠ some x) (hx : ∀ x ∈ o.op.operands, ∀ t, x = .tmp t → j ≠ some t) (hk : opK E o ⟨tm, h⟩ K) :
    opK E o ⟨putD tm j .junk, h⟩ (fun s => ∃ s', K s' ∧ s = ⟨putD s'.tmps j .junk, s'.h⟩) := by
  obtain ⟨dst, op, ty, pos, after, guard⟩ := o; simp only at hd hx; have put : ∀ v h', K ⟨putD tm dst v, h'⟩ → ∃ s', K s' ∧ (⟨putD (putD tm j .junk) dst v, h'⟩ : St) = ⟨putD s'.tmps j .junk, s'.h⟩ := fun v h' hk => ⟨_, hk, by simp only; rw [Zx _ _ hd]⟩
  cases op with
  | call c =>
    obtain ⟨callee, args, ats⟩ := c
    have ha : args.toList.map (ev (putD tm j .junk)) = args.toList.map (ev tm) := List.map_congr_left (fun x hm => Zz (hx x (by
      simp only [Op.operands, Call.operands, Array.mem_append]; exact .inr (by simpa using hm))))
    simp only [opK, Z5h] at hk ⊢
    cases callee with
    | value f =>
      simp only at hk ⊢; rw [ha, Zz (hx f (by simp [Op.operands, Call.operands]))]; exact Zbx hd hk
    | builtin b =>
      cases b <;> first | (simp [natO] at hn; done) | skip
      simp only at hk ⊢; rw [ha]; unfold Z3s at hk ⊢
      split at hk
      · cases ‹Builtin.append = Builtin.len›
      · rename_i x y t t' _ e1 e2
        simp only [e1, e2]; refine ⟨hk.1, Zc1 (fun b v h' hk => ⟨_, hk, ?_⟩) put hk.2⟩; simp only; rw [Z58 rfl, Zx _ _ hd]
      · cases ‹Builtin.append = Builtin.min›
      · cases ‹Builtin.append = Builtin.max›
      · exact hk.elim
    | invoke r m => exact hk.elim
  | store t x y =>
    have hx1 := hx x (by simp [Op.operands]); have hy1 := hx y (by simp [Op.operands]); simp only [opK] at hk ⊢; have e1 : ev (putD tm j .junk) x = ev tm x := Zz hx1; have e2 : ev (putD tm j .junk) y = ev tm y := Zz hy1; rw [e1, e2]
    split at hk
    · rename_i b s i f he
      try simp only [he]
      rw [show fzL [ev tm y] ⟨putD tm j .junk, h⟩ = ⟨putD (fzL [ev tm y] ⟨tm, h⟩).tmps j .junk, (fzL [ev tm y] ⟨tm, h⟩).h⟩ from Z8a _ ⟨tm, h⟩]; refine Z5t (K := fun st' => K ⟨putD st'.tmps dst (.tup []), st'.h⟩) hx1 hy1 (fun h' hk => ⟨_, hk, ?_⟩) hk; simp only; rw [Zx _ _ hd]
    · rename_i hne
      have := Z5t (s := ⟨tm, h⟩) (K := fun st' => K ⟨putD st'.tmps dst (.tup []), st'.h⟩) (K' := fun st' => ∃ s', K s' ∧ (⟨putD st'.tmps dst (.tup []), st'.h⟩ : St) = ⟨putD s'.tmps j .junk, s'.h⟩) hx1 hy1 (fun h' hk => ⟨_, hk, by simp only; rw [Zx _ _ hd]⟩) hk; exact this
  | alloc t => exact Z91 put hk
  | makeMap t n =>
    cases n with
    | some n => simp [natO] at hn
    | none => exact put _ _ hk
  | insert t x i y =>
    have hx1 := hx x (by simp [Op.operands]); have hi1 := hx i (by simp [Op.operands]); have hy1 := hx y (by simp [Op.operands]); simp only [opK] at hk ⊢; have e2 : ev (putD tm j .junk) y = ev tm y := Zz hy1; rw [e2, show fzL [ev tm y] ⟨putD tm j .junk, h⟩ = ⟨putD (fzL [ev tm y] ⟨tm, h⟩).tmps j .junk, (fzL [ev tm y] ⟨tm, h⟩).h⟩ from Z8a _ ⟨tm, h⟩]; generalize fzL [ev tm y] ⟨tm, h⟩ = s at hk ⊢; unfold updZ at hk ⊢; simp only [Zz hx1, Zz hi1, Zz hy1]; exact Zb7 (fun h' hk => ⟨_, hk, by simp only; rw [Zx _ _ hd]⟩) hk
  | makeSlice t l c =>
    simp only [opK] at hk ⊢; rw [Zz (hx l (by simp [Op.operands])), Zz (hx c (by simp [Op.operands]))]; exact Zbn put hk
  | box t x =>
    simp only [opK] at hk ⊢; rw [Zz (hx x (by simp [Op.operands]))]; exact Z8g put hk
  | binOp op t x y u =>
    simp only [opK] at hk ⊢; rw [Zz (hx x (by simp [Op.operands])), Zz (hx y (by simp [Op.operands]))]; exact Z8z E.P (fun v hv => put v h hv) hk
  | buildSlice t len parts =>
    have hj : ∀ p ∈ parts.toList, ∀ x, p.2 = .tmp x → j ≠ some x := fun p hp => hx p.2 (by simp only [Op.operands, List.mem_toArray, List.mem_map]; exact ⟨p, hp, rfl⟩)
    have ha : parts.toList.map (fun p => ev (putD tm j .junk) p.2) = parts.toList.map (fun p => ev tm p.2) := List.map_congr_left (fun p hp => Zz (hj p hp)); simp only [opK] at hk ⊢; rw [ha, show fzL (parts.toList.map fun p => ev tm p.2) ⟨putD tm j .junk, h⟩ = ⟨putD (fzL (parts.toList.map fun p => ev tm p.2) ⟨tm, h⟩).tmps j .junk, (fzL (parts.toList.map fun p => ev tm p.2) ⟨tm, h⟩).h⟩ from Z8a _ ⟨tm, h⟩]; generalize fzL (parts.toList.map fun p => ev tm p.2) ⟨tm, h⟩ = s at hk ⊢; have hb : parts.toList.map (fun p => (p.1, ev (putD s.tmps j .junk) p.2)) = parts.toList.map (fun p => (p.1, ev s.tmps p.2)) := List.map_congr_left (fun p hp => by rw [Zz (hj p hp)]); unfold bsZ bsK at hk ⊢; simp only; rw [hb]; obtain ⟨te, ht, hk⟩ := hk.get; rw [Zh ht]
    split at hk
    · rename_i e he
      obtain ⟨ee, hee, hk⟩ := hk.get
      try simp only [he]
      rw [Zh hee]
      split at hk
      · rename_i ps hps
        try simp only [hps]
        exact ⟨hk.1, _, hk.2, by simp only; rw [Zx _ _ hd]⟩
      · exact hk.elim
    · exact hk.elim
  | _ => simp [natO] at hn

theorem Z9n {o : Oper} (hn : natO o = true) : ∀ {l : List Oper} {tm : List AV} {K : St → Prop}, (∀ x ∈ l, ∀ d, x.dst = some d → o.dst ≠ some d) → (∀ x ∈ l, ∀ y ∈ o.op.operands, ∀ t, y = .tmp t → x.dst ≠ some t) → opK E o ⟨tm, h⟩ K →
    opK E o ⟨jkO l tm, h⟩ (fun s => ∃ s', K s' ∧ s = ⟨jkO l s'.tmps, s'.h⟩)
  | [], tm, K, _, _, hk => by
    have e : (fun s : St => ∃ s' : St, K s' ∧ s = ⟨jkO [] s'.tmps, s'.h⟩) = K := by
      funext s
      apply propext
      constructor
      · rintro ⟨s', h1, rfl⟩; exact h1
      · exact fun h => ⟨s, h, rfl⟩
    rw [e]; exact hk
  | x :: l, tm, K, hd, hx, hk => by
    have h1 := Zhq (j := x.dst) hn (fun y hy => hd x (by simp) y hy) (fun y hy => hx x (by simp) y hy) hk; have h2 := Z9n hn (l := l) (fun y hy => hd y (by simp [hy])) (fun y hy => hx y (by simp [hy])) h1; have e : (fun s : St => ∃ s' : St, (∃ s'' : St, K s'' ∧ s' = ⟨putD s''.tmps x.dst .junk, s''.h⟩) ∧ s = ⟨jkO l s'.tmps, s'.h⟩) = (fun s => ∃ s' : St, K s' ∧ s = ⟨jkO (x :: l) s'.tmps, s'.h⟩) := by
      funext s
      apply propext
      constructor
      · rintro ⟨s', ⟨s'', h1, rfl⟩, rfl⟩; exact ⟨s'', h1, rfl⟩
      · rintro ⟨s', h1, rfl⟩; exact ⟨_, ⟨s', h1, rfl⟩, rfl⟩
    rw [e] at h2; exact h2
end

/-! ### The chosen orders: q: it writes nothing; e: it changes the heap, then so, or else another one changes it first; s: asked again. -/
inductive PT where
  | fin | nil
  | q (i : Nat) (t : PT) | s (i : Nat) (t : PT) | e (i : Nat) (t r : PT)
  deriving Inhabited

def okV (tm : List AV) (d : Option Nat) (v : AV) : Prop := match d with
  | some d => tm.getD d .junk = v
  | none => False

def Z03 (E : Env) (ops : List Oper) : PT → St → (St → Prop) → Prop
  | .fin, st, K => K st
  | .nil, _, _ => True
  | .q i l, st, K => (match ops[i]? with
    | some o => Zr ops o.guard st.tmps (Z6 E o.op st.h (ev st.tmps) fun v => Z03 E ops l ⟨putD st.tmps o.dst v, st.h⟩ K) (Z03 E ops l ⟨putD st.tmps o.dst (.tup []), st.h⟩ K)
    | none => False)
  | .e i l r, st, K => (match ops[i]? with
    | some o => Zr ops o.guard st.tmps (opK E o st fun st' => Z03 E ops l st' K) (Z03 E ops l ⟨putD st.tmps o.dst (.tup []), st.h⟩ K)
    | none => False) ∧ Z03 E ops r st K
  | .s i l, st, K => (match ops[i]? with
    | some o => Zr ops o.guard st.tmps (Z6 E o.op st.h (ev st.tmps) (okV st.tmps o.dst)) (okV st.tmps o.dst (.tup []))
    | none => False) ∧ Z03 E ops l st K

def Z2e (ops : List Oper) : List Nat → Bool
  | [] => true
  | i :: l => (match ops[i]? with
    | some o => (match o.dst with
      | some d => !(o.looksAt ops.toArray).contains d
      | none => false) &&
      l.all (fun j => match ops[j]? with
        | some oj => (match oj.dst with
          | some d => !(o.looksAt ops.toArray).contains d && o.dst != some d
          | none => false)
        | none => false)
    | none => false) && Z2e ops l

def PT.heads : PT → List Nat
  | .e i _ r => i :: r.heads
  | _ => []

def Z3v (ops : List Oper) (b : List (List Nat)) (D : List Nat) (i : Nat) (o : Oper) : Bool :=
  !D.contains i && (b.getD i []).all (D.contains ·) && D.all (fun j => (b.getD i []).contains j || (match ops[j]? with | some oj => oj.apart ops.toArray o && o.apart ops.toArray oj | none => false))

def opn (b : List (List Nat)) (D F : List Nat) (i : Nat) : List Nat := D.filter fun j => !(b.getD i []).contains j && !F.contains j

def goOK (ops : List Oper) (b : List (List Nat)) : Bool → List Nat → List Nat → List Nat → PT → Bool
  | false, D, _, [], .fin => Nat.beq D.length ops.length
  | true, _, _, [], .nil => true
  | false, D, F, [], .q i l => (match ops[i]? with
    | some o => Z3v ops b D i o && goOK ops b false (D ++ [i]) F [] l
    | none => false)
  | m, D, F, [], .e i l r => (m || (List.range ops.length).all fun k => D.contains k || (i :: r.heads).contains k || !(b.getD k []).all (D.contains ·)) && ((match ops[i]? with
    | some o => Z3v ops b D i o && (natO o && (Z2e ops (opn b D F i) && goOK ops b false (D ++ [i]) (F ++ [i]) (opn b D F i) l))
    | none => false) && goOK ops b true D F [] r)
  | false, D, F, p :: ex, .s i l => Nat.beq p i && goOK ops b false D F ex l
  | _, _, _, _, _ => false

def Z6p (ops : List Oper) : Bool := (List.range ops.length).all fun i => match ops[i]? with
  | some o => o.after.toList.all (fun e => !Region.binds .any e || Nat.blt e.on i)
  | none => true
def Z9k (ops : List Oper) (codes : PT) : Bool := Z6p ops && goOK ops (befs ops []) false [] [] [] codes

section
variable {E : Env} {ops : List Oper} {h : List AObj} {KT KT' : List AV → Prop}

theorem Z6d : ∀ {l : List Oper} {tm : List AV}, (∀ tm', KT tm' → KT' tm') → lexR E ops h l tm KT → lexR E ops h l tm KT'
  | [], _, hi, hk => hi _ hk
  | o :: l, tm, hi, ⟨v, h1, h2⟩ => ⟨v, h1, Z6d hi h2⟩
theorem Z6c {o : Oper} : ∀ {l : List Oper} {tm : List AV}, lexR E ops h l tm (fun tm' => ∃ v, Z24 E ops h o tm' v ∧ KT (putD tm' o.dst v)) → lexR E ops h (l ++ [o]) tm KT
  | [], _, hk => hk
  | x :: l, tm, ⟨v, h1, h2⟩ => ⟨v, h1, Z6c h2⟩
theorem Z85 : ∀ {l : List Oper} {tm : List AV}, lexR E ops h l tm KT → ∃ tm', KT tm' ∧ jkO l tm' = jkO l tm
  | [], tm, hk => ⟨tm, hk, rfl⟩
  | o :: l, tm, ⟨v, h1, h2⟩ => by
    obtain ⟨tm', h3, h4⟩ := Z85 h2; refine ⟨tm', h3, ?_⟩; show jkO l (putD tm' o.dst .junk) = jkO l (putD tm o.dst .junk); rw [Z3o, h4, ← Z3o, Z62]

def Zay (ops : List Oper) : List Oper → Prop
  | [] => True
  | o :: l => (∃ d, o.dst = some d ∧ d ∉ o.looksAt ops.toArray) ∧ (∀ x ∈ l, ∀ d, x.dst = some d → d ∉ o.looksAt ops.toArray ∧ o.dst ≠ some d) ∧ Zay ops l

theorem Z6e {tm : List AV} : ∀ {l : List Oper}, Zay ops l → (∀ o ∈ l, ∃ d, o.dst = some d ∧ Z24 E ops h o tm (tm.getD d .junk)) → KT tm → lexR E ops h l (jkO l tm) KT
  | [], _, _, hk => hk
  | o :: l, ⟨⟨d, hd, hself⟩, hcl, hc⟩, hs, hk => by
    obtain ⟨d', hd', hr⟩ := hs o (by simp); have : d' = d := by rw [hd] at hd'; injection hd' with h; exact h.symm
    subst this; refine ⟨tm.getD d' .junk, Z1e (fun t ht => (Z3p (l := o :: l) (fun x hx e => ?_)).symm) hr, ?_⟩
    · rcases List.mem_cons.1 hx with rfl | hx
      · rw [hd] at e; injection e with e; subst e; exact hself ht
      · exact (hcl x hx t e).1 ht
    · have e : putD (jkO (o :: l) tm) o.dst (tm.getD d' .junk) = jkO l tm := by
        show putD (jkO l (putD tm o.dst .junk)) o.dst _ = _; rw [Z3o, Z62, hd]; exact Z9d (Z3p (fun x hx e => (hcl x hx d' e).2 hd))
      rw [e]; exact Z6e hc (fun x hx => hs x (by simp [hx])) hk
end

theorem Z4f {ops : List Oper} : ∀ {P : List Nat} {pl : List (Nat × Oper)}, Z2e ops P = true → (pl.map (·.1)).Sublist P → (∀ p ∈ pl, ops[p.1]? = some p.2) → Zay ops (pl.map (·.2))
  | [], [], _, _, _ => trivial
  | [], p :: pl, _, hs, _ => by simp at hs
  | i :: P, pl, hc, hs, ho => by
    simp only [Z2e, Bool.and_eq_true] at hc
    cases pl with
    | nil => trivial
    | cons p pl =>
      simp only [List.map_cons] at hs
      cases hs with
      | cons _ hs => exact Z4f (pl := p :: pl) hc.2 hs ho
      | cons_cons _ hs =>
        have hp := ho p (by simp); simp only [hp, Bool.and_eq_true] at hc; obtain ⟨⟨h1, h2⟩, h3⟩ := hc; refine ⟨?_, fun x hx d hd => ?_, Z4f h3 hs (fun q hq => ho q (by simp [hq]))⟩
        · split at h1
          · rename_i d hd; exact ⟨d, hd, by simpa using h1⟩
          · cases h1
        · obtain ⟨q, hq, rfl⟩ := List.mem_map.1 hx
          have hm : q.1 ∈ P := hs.subset (List.mem_map.2 ⟨q, hq, rfl⟩); have h4 := List.all_eq_true.1 h2 q.1 hm; simp only [ho q (by simp [hq]), hd, Bool.and_eq_true, Bool.not_eq_true', List.contains_eq_mem, decide_eq_false_iff_not, bne_iff_ne, ne_eq] at h4; exact h4

structure PSt (ops : List Oper) (b : List (List Nat)) (D : List Nat) (pl : List (Nat × Oper)) : Prop where
  nodup : D.Nodup
  lt : ∀ i ∈ D, i < ops.length
  sub : (pl.map (·.1)).Sublist D
  opr : ∀ p ∈ pl, ops[p.1]? = some p.2
  pair : D.Pairwise fun x y => x ∈ b.getD y [] ∨ ∀ ox oy, ops[x]? = some ox → ops[y]? = some oy → ox.apart ops.toArray oy = true ∧ oy.apart ops.toArray ox = true

theorem Z7d {ops : List Oper} {b : List (List Nat)} {D : List Nat} {i : Nat} {o : Oper} (hg : Z3v ops b D i o = true) :
    i ∉ D ∧ (∀ j ∈ b.getD i [], j ∈ D) ∧ (∀ j ∈ D, j ∈ b.getD i [] ∨ ∀ oj, ops[j]? = some oj → oj.apart ops.toArray o = true ∧ o.apart ops.toArray oj = true) := by
  simp only [Z3v, Bool.and_eq_true, Bool.not_eq_true', List.contains_eq_mem, decide_eq_false_iff_not, List.all_eq_true, decide_eq_true_eq, Bool.or_eq_true] at hg; obtain ⟨⟨h1, h2⟩, h4⟩ := hg; refine ⟨h1, h2, fun j hj => (h4 j hj).imp id fun h oj hoj => ?_⟩; rw [hoj] at h
  simpa using h

theorem Z2q : ∀ {l m : List Nat}, l.Nodup → l ⊆ m → l.length ≤ m.length
  | [], _, _, _ => Nat.zero_le _
  | a :: l, m, h, hs => by
    obtain ⟨h1, h2⟩ := List.nodup_cons.1 h; have ha : a ∈ m := hs (by simp); have := Z2q (m := m.erase a) h2 (fun x hx => (List.mem_erase_of_ne (fun e : x = a => h1 (e ▸ hx))).2 (hs (by simp [hx]))); rw [List.length_erase_of_mem ha] at this; have := List.length_pos_of_mem ha; simp only [List.length_cons]; omega

theorem Za9 {E : Env} {ops : List Oper} {b : List (List Nat)} {D F : List Nat} {st : St} {K : St → Prop} {i : Nat} : ∀ {t : PT} {m : Bool}, goOK ops b m D F [] t = true → Z03 E ops t st K → i ∈ t.heads →
    ∃ o l, ops[i]? = some o ∧ Z3v ops b D i o = true ∧ natO o = true ∧ Z2e ops (opn b D F i) = true ∧ goOK ops b false (D ++ [i]) (F ++ [i]) (opn b D F i) l = true ∧
      Zr ops o.guard st.tmps (opK E o st fun st' => Z03 E ops l st' K) (Z03 E ops l ⟨putD st.tmps o.dst (.tup []), st.h⟩ K)
  | .fin, _, _, _, hi => by simp [PT.heads] at hi
  | .nil, _, _, _, hi => by simp [PT.heads] at hi
  | .q _ _, _, _, _, hi => by simp [PT.heads] at hi
  | .s _ _, _, _, _, hi => by simp [PT.heads] at hi
  | .e k l r, m, hg, hk, hi => by
    have hg : ((m || (List.range ops.length).all fun k' => D.contains k' || (k :: r.heads).contains k' || !(b.getD k' []).all (D.contains ·)) && ((match ops[k]? with
      | some o => Z3v ops b D k o && (natO o && (Z2e ops (opn b D F k) && goOK ops b false (D ++ [k]) (F ++ [k]) (opn b D F k) l))
      | none => false) && goOK ops b true D F [] r)) = true := by cases m <;> exact hg
    simp only [Bool.and_eq_true] at hg; obtain ⟨_, h1, h2⟩ := hg; simp only [Z03] at hk; simp only [PT.heads, List.mem_cons] at hi; rcases hi with rfl | hi
    · cases ho : ops[i]? with
      | none => rw [ho] at h1; cases h1
      | some o =>
        have hk1 := hk.1; rw [ho] at h1 hk1; simp only [Bool.and_eq_true] at h1; exact ⟨o, l, rfl, h1.1, h1.2.1, h1.2.2.1, h1.2.2.2, hk1⟩
    · exact Za9 h2 hk.2 hi

theorem Zcp {ops : List Oper} {b : List (List Nat)} {D F : List Nat} {i : Nat} {l r : PT} (hg : goOK ops b false D F [] (.e i l r) = true) : (∀ k, k < ops.length → k ∉ D → (∀ j ∈ b.getD k [], j ∈ D) → k ∈ (PT.e i l r).heads) ∧ ∃ o, ops[i]? = some o ∧ i ∉ D := by
  have hg : ((false || (List.range ops.length).all fun k' => D.contains k' || (i :: r.heads).contains k' || !(b.getD k' []).all (D.contains ·)) && ((match ops[i]? with
      | some o => Z3v ops b D i o && (natO o && (Z2e ops (opn b D F i) && goOK ops b false (D ++ [i]) (F ++ [i]) (opn b D F i) l))
      | none => false) && goOK ops b true D F [] r)) = true := hg
  simp only [Bool.and_eq_true, Bool.false_or] at hg; obtain ⟨h0, h1, _⟩ := hg
  constructor
  · intro k hk hkD hb
    have h2 := List.all_eq_true.1 h0 k (List.mem_range.2 hk); simp only [Bool.or_eq_true, List.contains_eq_mem, decide_eq_true_eq, Bool.not_eq_true'] at h2; rcases h2 with (h2 | h2) | h2
    · exact absurd h2 hkD
    · exact h2
    · exfalso
      rw [Bool.eq_false_iff] at h2; exact h2 (List.all_eq_true.2 fun j hj => by simpa using hb j hj)
  · cases ho : ops[i]? with
    | none => rw [ho] at h1; cases h1
    | some o =>
      rw [ho] at h1; simp only [Bool.and_eq_true] at h1; exact ⟨o, rfl, (Z7d h1.1).1⟩

theorem Z4q {D : List Nat} {i : Nat} (hn : D.Nodup) (h : i ∉ D) : (D ++ [i]).Nodup :=
  List.nodup_append.2 ⟨hn, by simp, fun a ha c hc => by rw [List.mem_singleton] at hc; subst hc; exact fun e => h (e ▸ ha)⟩

theorem PSt.snoc {ops : List Oper} {b : List (List Nat)} {D : List Nat} {pl : List (Nat × Oper)} (hp : PSt ops b D pl) {i : Nat} {o : Oper} (ho : ops[i]? = some o) (hi : i ∉ D)
    (h4 : ∀ j ∈ D, j ∈ b.getD i [] ∨ ∀ oj, ops[j]? = some oj → oj.apart ops.toArray o = true ∧ o.apart ops.toArray oj = true) : PSt ops b (D ++ [i]) pl ∧ PSt ops b (D ++ [i]) (pl ++ [(i, o)]) := by
  have hpair : (D ++ [i]).Pairwise fun x y => x ∈ b.getD y [] ∨ ∀ ox oy, ops[x]? = some ox → ops[y]? = some oy → ox.apart ops.toArray oy = true ∧ oy.apart ops.toArray ox = true := by
    refine List.pairwise_append.2 ⟨hp.pair, by simp, fun x hx y hy => ?_⟩; rw [List.mem_singleton] at hy; subst hy; refine (h4 x hx).imp id fun h ox oy h1 h2 => ?_
    rw [ho] at h2; injection h2 with h2; subst h2
    exact h ox h1
  have hlt : ∀ j ∈ D ++ [i], j < ops.length := fun j hj => by
    rcases List.mem_append.1 hj with hj | hj
    · exact hp.lt j hj
    · rw [List.mem_singleton] at hj; subst hj; exact (List.getElem?_eq_some_iff.1 ho).1
  refine ⟨⟨Z4q hp.nodup hi, hlt, hp.sub.trans (List.sublist_append_left _ _), hp.opr, hpair⟩, ⟨Z4q hp.nodup hi, hlt, ?_, fun p hq => ?_, hpair⟩⟩
  · rw [List.map_append]; exact hp.sub.append (List.Sublist.refl _)
  · rcases List.mem_append.1 hq with hq | hq
    · exact hp.opr p hq
    · rw [List.mem_singleton] at hq; subst hq; exact ho

def Zdy : PT → Prop
  | .fin => True
  | .e _ _ _ => True
  | _ => False

section
variable {E : Env} {ops : List Oper} {b : List (List Nat)} {h : List AObj} {K : St → Prop}

theorem Z27 {F : List Nat} : ∀ {codes : PT} {D : List Nat} {pl : List (Nat × Oper)} {tm : List AV}, goOK ops b false D F [] codes = true → PSt ops b D pl → (∀ p ∈ pl, p.1 ∉ F) → (∀ i ∈ F, i ∈ D) →
    lexR E ops h (pl.map (·.2)) tm (fun tm' => Z03 E ops codes ⟨tm', h⟩ K) →
    ∃ D' pl' codes', Zdy codes' ∧ goOK ops b false D' F [] codes' = true ∧ PSt ops b D' pl' ∧ (∀ p ∈ pl', p.1 ∉ F) ∧ (∀ i ∈ F, i ∈ D') ∧ lexR E ops h (pl'.map (·.2)) tm (fun tm' => Z03 E ops codes' ⟨tm', h⟩ K) ∧
      (∀ i, ((∃ p ∈ pl', p.1 = i) ∨ (i < ops.length ∧ i ∉ D')) ↔ ((∃ p ∈ pl, p.1 = i) ∨ (i < ops.length ∧ i ∉ D))) ∧ pl'.length + (ops.length - D'.length) ≤ pl.length + (ops.length - D.length)
  | .fin, D, pl, tm, hg, hp, hF, hFD, hk => ⟨D, pl, .fin, trivial, hg, hp, hF, hFD, hk, fun _ => Iff.rfl, Nat.le_refl _⟩
  | .nil, D, pl, tm, hg, hp, hF, hFD, hk => by simp [goOK] at hg
  | .e i l r, D, pl, tm, hg, hp, hF, hFD, hk => ⟨D, pl, .e i l r, trivial, hg, hp, hF, hFD, hk, fun _ => Iff.rfl, Nat.le_refl _⟩
  | .s i l, D, pl, tm, hg, hp, hF, hFD, hk => by simp [goOK] at hg
  | .q i l, D, pl, tm, hg, hp, hF, hFD, hk => by
    simp only [goOK] at hg
    split at hg
    · rename_i o ho
      rw [Bool.and_eq_true] at hg; obtain ⟨hg, h5⟩ := hg; obtain ⟨h1, h2, h4⟩ := Z7d hg; have hlt := (List.getElem?_eq_some_iff.1 ho).1; have hk2 : lexR E ops h ((pl ++ [(i, o)]).map (·.2)) tm (fun tm' => Z03 E ops l ⟨tm', h⟩ K) := by
        rw [List.map_append]; refine Z6c (o := o) (Z6d (fun tm' hk => ?_) hk); simp only [Z03, ho] at hk; obtain ⟨v, h6, h7⟩ := Z35 (K := fun v => Z03 E ops l ⟨putD tm' o.dst v, h⟩ K) hk; exact ⟨v, h7, h6⟩
      obtain ⟨D', pl', codes', g1, g2, g3, g7, g8, g4, g5, g6⟩ := Z27 h5 (hp.snoc ho h1 h4).2 (fun p hp => by
        rcases List.mem_append.1 hp with hp | hp
        · exact hF p hp
        · rw [List.mem_singleton] at hp; subst hp; exact fun h => h1 (hFD _ h)) (fun k hk => by simp [hFD k hk]) hk2
      refine ⟨D', pl', codes', g1, g2, g3, g7, g8, g4, fun k => ?_, ?_⟩
      · rw [g5 k]
        constructor
        · rintro (⟨p, hp, rfl⟩ | ⟨h6, h7⟩)
          · rcases List.mem_append.1 hp with hp | hp
            · exact .inl ⟨p, hp, rfl⟩
            · rw [List.mem_singleton] at hp; subst hp; exact .inr ⟨hlt, h1⟩
          · exact .inr ⟨h6, fun h8 => h7 (by simp [h8])⟩
        · rintro (⟨p, hp, rfl⟩ | ⟨h6, h7⟩)
          · exact .inl ⟨p, by simp [hp], rfl⟩
          · by_cases e : k = i
            · subst e; exact .inl ⟨(k, o), by simp, rfl⟩
            · exact .inr ⟨h6, by simp [h7, e]⟩
      · have h8 : D.length < ops.length := by
          have h9 : (i :: D).Nodup := List.nodup_cons.2 ⟨h1, hp.nodup⟩; have h10 := Z2q (m := List.range ops.length) h9 (fun x hx => by
            rcases List.mem_cons.1 hx with rfl | hx
            · exact List.mem_range.2 hlt
            · exact List.mem_range.2 (hp.lt x hx))
          simp only [List.length_cons, List.length_range] at h10; omega
        simp only [List.length_append, List.length_cons, List.length_nil] at g6; omega
    · cases hg

theorem Z4s {D F : List Nat} {tm : List AV} : ∀ {ex : List Nat} {codes : PT}, goOK ops b false D F ex codes = true → Z03 E ops codes ⟨tm, h⟩ K →
    ∃ codes', goOK ops b false D F [] codes' = true ∧ Z03 E ops codes' ⟨tm, h⟩ K ∧ ∀ i ∈ ex, ∃ o, ops[i]? = some o ∧ ∃ d, o.dst = some d ∧ Z24 E ops h o tm (tm.getD d .junk)
  | [], codes, hg, hk => ⟨codes, hg, hk, by simp⟩
  | p :: ex, .fin, hg, hk => by simp [goOK] at hg
  | p :: ex, .nil, hg, hk => by simp [goOK] at hg
  | p :: ex, .q i l, hg, hk => by simp [goOK] at hg
  | p :: ex, .e i l r, hg, hk => by simp [goOK] at hg
  | p :: ex, .s i l, hg, hk => by
    simp only [goOK, Bool.and_eq_true] at hg; have e : p = i := Nat.eq_of_beq_eq_true hg.1; subst e; simp only [Z03] at hk; obtain ⟨codes', g1, g2, g3⟩ := Z4s hg.2 hk.2; refine ⟨codes', g1, g2, fun j hj => ?_⟩; rcases List.mem_cons.1 hj with rfl | hj
    · have h1 := hk.1
      split at h1
      · rename_i o ho
        obtain ⟨v, h2, h3⟩ := Z35 (K := okV tm o.dst) h1; unfold okV at h2
        split at h2
        · rename_i d hd; exact ⟨o, ho, d, hd, by rw [h2]; exact h3⟩
        · exact h2.elim
      · exact h1.elim
    · exact g3 j hj
end

theorem Z8u {ops : List Oper} {g : Option (Nat × Bool)} {tm tm' : List AV} {run run' skip skip' : Prop} (he : ∀ j w, g = some (j, w) → ∀ d, Z2j ops j = some d → tm'.getD d .junk = tm.getD d .junk) (h1 : run → run') (h2 : skip → skip')
    (hk : Zr ops g tm run skip) : Zr ops g tm' run' skip' := by
  unfold Zr at hk ⊢
  split at hk
  · exact h1 hk
  · rename_i j w
    split at hk
    · rename_i d hd
      have e := he j w rfl d hd; simp only [e]
      split at hk
      · exact ⟨fun h => h1 (hk.1 h), fun h => h2 (hk.2 h)⟩
      · exact h2 hk
      · exact hk.elim
    · exact hk.elim

section
variable {E : Env} {X : Ctx} {K : St → Prop} {Q : Exit → Act → World → Prop} {r : Option Nat} {ops : Array Oper} {ds : List Deferred}

theorem Z4h (hb : Z6p ops.toList = true) : ∀ (i : Nat) (o : Oper), ops.toList[i]? = some o → ∀ e ∈ o.after, Region.binds .any e = true → e.on < i := by
  intro i o ho e he hbd; have h1 := List.all_eq_true.1 hb i (List.mem_range.2 (List.getElem?_eq_some_iff.1 ho).1); simp only [ho] at h1; have h2 := List.all_eq_true.1 h1 e (by simpa using he); simp only [hbd, Bool.not_true, Bool.false_or] at h2; exact Nat.le_of_ble_eq_true h2

theorem Left.before' (hb : Z6p ops.toList = true) {un : Nat → Prop} {listed : Array Bool} (L : Left ops un listed) {i j : Nat} {o : Oper} (hi : i ∈ Region.ready .any ops listed) (ho : ops[i]? = some o) (hj : j ∈ (befs ops.toList []).getD i []) : ¬ un j := by
  obtain ⟨h0, o', ho', hall⟩ := mem_ready.1 hi; rw [ho] at ho'; injection ho' with ho'; subst ho'
  refine L.not (Z5k (S := fun j => listed.getD j false = true) (Z4h hb) (fun i o ho => L.down i o (by simpa using ho)) ops.toList [] (by simp) (by simp) i o (by simpa using ho) ?_ hall j hj); have := (Array.getElem?_eq_some_iff.1 ho).1
  simpa using this

theorem Left.some' (hb : Z6p ops.toList = true) {un : Nat → Prop} {listed : Array Bool} (L : Left ops un listed) {i : Nat} (hi : un i) : Region.ready .any ops listed ≠ [] := by
  have key : ∀ n i, i < n → un i → Region.ready .any ops listed ≠ [] := by
    intro n
    induction n with
    | zero => intro i h; omega
    | succ n ih =>
      intro i hin hu hr; by_cases hmin : ∀ j, j < i → ¬ un j
      · have hlt := L.lt hu
        have hm : i ∈ Region.ready .any ops listed := mem_ready.2 ⟨(L.un i).2 hu, ops[i], by simp [hlt], fun e he hbd => by
          have := Z4h hb i ops[i] (by simp [hlt]) e he hbd; exact L.li (by omega) (hmin _ this)⟩
        rw [hr] at hm; cases hm
      · have ⟨j, hj, huj⟩ : ∃ j, j < i ∧ un j := by
          apply Classical.byContradiction
          intro hno; exact hmin fun j hj hu => hno ⟨j, hj, hu⟩
        exact ih j (by omega) huj hr
  exact key (i + 1) i (by omega) hi

theorem Zbg (hb : Z6p ops.toList = true) (hΓ : Zg E.P E.Γ) (hE : E.fits X) : ∀ (fuel : Nat) {D F : List Nat} {codes : PT} {pl : List (Nat × Oper)} {listed : Array Bool} {tm : List AV} {h : List AObj} {a : Act} {w : World} {I : Nat → Prop},
    goOK ops.toList (befs ops.toList []) false D F [] codes = true → Zdy codes → PSt ops.toList (befs ops.toList []) D pl → (∀ p ∈ pl, p.1 ∉ F) → (∀ i ∈ F, i ∈ D) → Left ops (fun i => (∃ p ∈ pl, p.1 = i) ∨ (i < ops.toList.length ∧ i ∉ D)) listed → pl.length + (ops.toList.length - D.length) ≤ fuel →
    Now X I ⟨tm, h⟩ w a → a.defers = ds → lexR E ops.toList h (pl.map (·.2)) tm (fun tm' => Z03 E ops.toList codes ⟨tm', h⟩ K) → (∀ a w, Z22 X I ds K a w → Q .normal a w) → wpAnyIn (Fw r) 0 E.P .any ops Q fuel listed a w := by
  -- nothing is left
  have fin : ∀ {D F : List Nat} {codes : PT} {pl : List (Nat × Oper)} {tm : List AV} {h : List AObj} {a : Act} {w : World} {I : Nat → Prop}, goOK ops.toList (befs ops.toList []) false D F [] codes = true → Zdy codes → (∀ i, ¬ ((∃ p ∈ pl, p.1 = i) ∨ (i < ops.toList.length ∧ i ∉ D))) →
      Now X I ⟨tm, h⟩ w a → a.defers = ds → lexR E ops.toList h (pl.map (·.2)) tm (fun tm' => Z03 E ops.toList codes ⟨tm', h⟩ K) → (∀ a w, Z22 X I ds K a w → Q .normal a w) → Q .normal a w := by
    intro D F codes pl tm h a w I hg hn hno hN hd hk hQ; have hpl : pl = [] := by
      cases pl with
      | nil => rfl
      | cons p pl => exact absurd (.inl ⟨p, by simp, rfl⟩) (hno p.1)
    subst hpl
    cases codes with
    | fin => exact hQ a w ⟨⟨tm, h⟩, hN, hd, hk⟩
    | nil => exact hn.elim
    | q i l => exact hn.elim
    | s i l => exact hn.elim
    | e i l r =>
      obtain ⟨_, o, ho, hi⟩ := Zcp hg; exact absurd (.inr ⟨(List.getElem?_eq_some_iff.1 ho).1, hi⟩) (hno i)
  intro fuel
  induction fuel with
  | zero =>
    intro D F codes pl listed tm h a w I hg hn hp hF hFD L hf hN hd hk hQ; have hno : ∀ i, ¬ ((∃ p ∈ pl, p.1 = i) ∨ (i < ops.toList.length ∧ i ∉ D)) := by
      rintro i (⟨p, hp, rfl⟩ | ⟨h1, h2⟩)
      · have := List.length_pos_of_mem hp; omega
      · have h9 : (i :: D).Nodup := List.nodup_cons.2 ⟨h2, hp.nodup⟩
        have h10 := Z2q (m := List.range ops.toList.length) h9 (fun x hx => by
          rcases List.mem_cons.1 hx with rfl | hx
          · exact List.mem_range.2 h1
          · exact List.mem_range.2 (hp.lt x hx))
        simp only [List.length_cons, List.length_range] at h10; omega
    refine ⟨List.eq_nil_iff_forall_not_mem.2 fun i hi => hno i ((L.un i).1 (mem_ready.1 hi).1), fin hg hn hno hN hd hk hQ⟩
  | succ fuel ih =>
    intro D F codes pl listed tm h a w I hg hn hp hF hFD L hf hN hd hk hQ; refine ⟨fun hr => fin hg hn (fun i hu => L.some' hb hu hr) hN hd hk hQ, fun i hi => ?_⟩; obtain ⟨hu, o, ho, _⟩ := mem_ready.1 hi; have hu := (L.un i).1 hu; have ho' : ops.toList[i]? = some o := by simpa using ho
    rcases hu with ⟨p, hpm, rfl⟩ | ⟨his, hiD⟩
    · -- one that was open
      have hpo : o = p.2 := by have := hp.opr p hpm; rw [ho'] at this; injection this
      subst hpo; obtain ⟨A, B, rfl⟩ := List.append_of_mem hpm; have hsub := hp.sub; have hap : ∀ x ∈ A.map (·.2), p.2.apart ops.toList.toArray x = true := by
        intro x hx; obtain ⟨q, hq, rfl⟩ := List.mem_map.1 hx; have h1 : [q.1, p.1].Sublist D := by
          have h2 : [q.1, p.1].Sublist ((A ++ p :: B).map (·.1)) := by
            rw [List.map_append, List.map_cons]; have h3 : [q.1].Sublist (A.map (·.1)) := List.singleton_sublist.2 (List.mem_map.2 ⟨q, hq, rfl⟩); exact h3.append (List.Sublist.cons_cons _ (List.nil_sublist _))
          exact h2.trans hsub
        have h4 := (hp.pair.sublist h1); have h5 := (List.pairwise_cons.1 h4).1 p.1 (by simp); rcases h5 with h5 | h5
        · exact absurd (.inl ⟨q, by simp [hq], rfl⟩) (Left.before' hb L hi ho h5)
        · exact (h5 q.2 p.2 (hp.opr q (by simp [hq])) ho').2
      simp only [List.map_append, List.map_cons] at hk; obtain ⟨v, hv, hk⟩ := Z33 _ hk hap; refine wpOpIn_mono ?_ (Z9c hΓ hE ho hN hd hv); rintro a' w' ⟨st', hN', hd', rfl⟩; have hnd : ∀ q ∈ A ++ B, q.1 ≠ p.1 := fun q hq e => by
        have h1 : ((A ++ p :: B).map (·.1)).Nodup := hp.nodup.sublist hsub; rw [List.map_append, List.map_cons] at h1; obtain ⟨h2, h3, h4⟩ := List.nodup_append.1 h1; rcases List.mem_append.1 hq with hq | hq
        · exact h4 q.1 (List.mem_map.2 ⟨q, hq, rfl⟩) p.1 (by simp) e
        · exact (List.nodup_cons.1 h3).1 (e ▸ List.mem_map.2 ⟨q, hq, rfl⟩)
      refine ih (pl := A ++ B) hg hn ⟨hp.nodup, hp.lt, ?_, fun q hq => hp.opr q (by simp only [List.mem_append, List.mem_cons] at hq ⊢; rcases hq with h | h <;> simp [h]), hp.pair⟩ (fun q hq => hF q (by simp only [List.mem_append, List.mem_cons] at hq ⊢; rcases hq with h | h <;> simp [h])) hFD (L.set hi fun j => ?_) ?_ hN' hd' (by simpa using hk) hQ
      · refine List.Sublist.trans ?_ hsub
        rw [List.map_append, List.map_append, List.map_cons]; exact (List.Sublist.refl _).append (List.sublist_cons_self _ _)
      · constructor
        · rintro (⟨q, hq, rfl⟩ | ⟨h1, h2⟩)
          · refine ⟨.inl ⟨q, by simp only [List.mem_append, List.mem_cons] at hq ⊢; rcases hq with h | h <;> simp [h], rfl⟩, hnd q hq⟩
          · exact ⟨.inr ⟨h1, h2⟩, fun e => h2 (e ▸ hsub.subset (by simp))⟩
        · rintro ⟨⟨q, hq, rfl⟩ | h, hne⟩
          · refine .inl ⟨q, ?_, rfl⟩
            simp only [List.mem_append, List.mem_cons] at hq ⊢; rcases hq with h | rfl | h
            · exact .inl h
            · exact absurd rfl hne
            · exact .inr h
          · exact .inr h
      · simp only [List.length_append, List.length_cons] at hf ⊢; omega
    · -- the next one that changes the heap
      have hbD : ∀ j ∈ (befs ops.toList []).getD i [], j ∈ D := fun j hj => by
        have hnu := Left.before' hb L hi ho hj; have hjl : j < ops.toList.length := Z5k (S := fun j => j < ops.toList.length) (Z4h hb) (fun i o ho hi e he hbd => by have := Z4h hb i o ho e he hbd; omega) ops.toList [] (by simp) (by simp) i o ho' (by simpa using his) (fun e he hbd => by have := Z4h hb i o ho' e he hbd; omega) j hj
        apply Classical.byContradiction
        intro hjD; exact hnu (.inr ⟨hjl, hjD⟩)
      cases codes with
      | nil => exact hn.elim
      | q k l => exact hn.elim
      | s k l => exact hn.elim
      | fin =>
        exfalso
        have hlen : D.length = ops.toList.length := Nat.eq_of_beq_eq_true (by simpa [goOK] using hg); have h9 : (i :: D).Nodup := List.nodup_cons.2 ⟨hiD, hp.nodup⟩; have h10 := Z2q (m := List.range ops.toList.length) h9 (fun x hx => by
          rcases List.mem_cons.1 hx with rfl | hx
          · exact List.mem_range.2 his
          · exact List.mem_range.2 (hp.lt x hx))
        simp only [List.length_cons, List.length_range] at h10; omega
      | e k0 l0 r0 =>
              have hhead := (Zcp hg).1 i his hiD hbD; obtain ⟨tm', hk1, hk2⟩ := Z85 hk; obtain ⟨ok, l, hok, hstep, hnat, hclean, hrest, hk1⟩ := Za9 hg hk1 hhead; obtain ⟨h1, h2, h4⟩ := Z7d hstep; have hPS := hp.snoc hok h1 h4; rw [ho'] at hok; injection hok with hok; subst hok
              have hpb : ∀ p ∈ pl, p.1 ∉ (befs ops.toList []).getD i [] := fun p hpm hmem => Left.before' hb L hi ho hmem (.inl ⟨p, hpm, rfl⟩)
              have hpD : ∀ p ∈ pl, p.1 ∈ D := fun p hpm => hp.sub.subset (List.mem_map.2 ⟨p, hpm, rfl⟩)
              have hap : ∀ p ∈ pl, p.2.apart ops.toList.toArray o = true ∧ o.apart ops.toList.toArray p.2 = true := fun p hpm => by
                rcases h4 p.1 (hpD p hpm) with h | h
                · exact absurd h (hpb p hpm)
                · exact h p.2 (hp.opr p hpm)
              have hwk : ∀ (l : List Oper) (tm : List AV) (a : Act) (w : World), Now X I ⟨tm, h⟩ w a → Now X I ⟨jkO l tm, h⟩ w a := by
                intro l
                induction l with
                | nil => exact fun _ _ _ h => h
                | cons x l ih => exact fun tm a w hN => ih _ a w (Now.weak (st := ⟨tm, h⟩) (st' := ⟨putD tm x.dst .junk, h⟩) ⟨Z7o x.dst tm, Zm _⟩ hN)
              have hN2 := hwk (pl.map (·.2)) tm a w hN; rw [← hk2] at hN2; have hlook : ∀ x ∈ pl.map (·.2), ∀ t ∈ o.looksAt ops.toList.toArray, x.dst ≠ some t := fun x hx t ht e => by
                obtain ⟨q, hq, rfl⟩ := List.mem_map.1 hx; exact (Oper.apart_spec (hap q hq).1).1 t e ht
              have hg2 : Zr ops.toList o.guard (jkO (pl.map (·.2)) tm') (opK E o ⟨jkO (pl.map (·.2)) tm', h⟩ (fun s => ∃ s', Z03 E ops.toList l s' K ∧ s = ⟨jkO (pl.map (·.2)) s'.tmps, s'.h⟩))
                  ((fun s : St => ∃ s' : St, Z03 E ops.toList l s' K ∧ s = ⟨jkO (pl.map (·.2)) s'.tmps, s'.h⟩) ⟨putD (jkO (pl.map (·.2)) tm') o.dst (.tup []), h⟩) := by
                refine Z8u (fun j w hjw d hd => Z3p fun x hx => hlook x hx d ?_) (fun hk => ?_) (fun hk => ⟨_, hk, ?_⟩) hk1
                · simp only [Oper.looksAt, hjw, List.mem_append]
                  refine .inr ?_; have : (ops.toList.toArray[j]?).bind (·.dst) = some d := by simpa [Z2j] using hd
                  rw [this]; simp
                · refine Z9n hnat (fun x hx d hd => ?_) (fun x hx y hy t ht => ?_) hk
                  · obtain ⟨q, hq, rfl⟩ := List.mem_map.1 hx
                    exact (Oper.apart_spec (hap q hq).1).2.1 d hd
                  · refine hlook x hx t ?_
                    simp only [Oper.looksAt, List.mem_append, List.mem_filterMap]; exact .inl ⟨y, by simpa using hy, by rw [ht]⟩
                · have hsw : ∀ (l : List Oper) (tm : List AV), (∀ x ∈ l, ∀ d, x.dst = some d → o.dst ≠ some d) → putD (jkO l tm) o.dst (.tup []) = jkO l (putD tm o.dst (.tup [])) := by
                    intro l
                    induction l with
                    | nil => exact fun _ _ => rfl
                    | cons x l ih =>
                      intro tm hx; show putD (jkO l (putD tm x.dst .junk)) o.dst _ = jkO l (putD (putD tm o.dst (.tup [])) x.dst .junk); rw [ih _ (fun y hy => hx y (by simp [hy])), Zx (d := x.dst) (d' := o.dst) .junk (.tup []) (fun y hy => hx x (by simp) y hy)]
                  rw [hsw _ _ (fun x hx d hd => by
                    obtain ⟨q, hq, rfl⟩ := List.mem_map.1 hx; exact (Oper.apart_spec (hap q hq).1).2.1 d hd)]
              refine wpOpIn_mono ?_ (Z3q (K := fun s => ∃ s', Z03 E ops.toList l s' K ∧ s = ⟨jkO (pl.map (·.2)) s'.tmps, s'.h⟩) hΓ hE ho hN2 hd hg2); rintro a2 w2 ⟨st2, hN3, hd3, ⟨tm2, h2'⟩, hk3, rfl⟩; obtain ⟨codes', g1, g2, g3⟩ := Z4s hrest hk3; have hsubP : (pl.map (·.1)).Sublist (opn (befs ops.toList []) D F i) := by
                have h6 := hp.sub.filter (fun j => !((befs ops.toList []).getD i []).contains j && !F.contains j)
                rwa [List.filter_eq_self.2 (fun j hj => by
                  obtain ⟨q, hq, rfl⟩ := List.mem_map.1 hj; have h7 := hpb q hq; have h8 := hF q hq; simp only [List.contains_eq_mem, Bool.and_eq_true, Bool.not_eq_true', decide_eq_false_iff_not]; exact ⟨h7, h8⟩)] at h6
              have hk4 : lexR E ops.toList h2' (pl.map (·.2)) (jkO (pl.map (·.2)) tm2) (fun tm' => Z03 E ops.toList codes' ⟨tm', h2'⟩ K) := by
                refine Z6e (Z4f hclean hsubP hp.opr) (fun x hx => ?_) g2; obtain ⟨q, hq, rfl⟩ := List.mem_map.1 hx; obtain ⟨oq, ho1, d, hd1, hr⟩ := g3 q.1 (hsubP.subset (List.mem_map.2 ⟨q, hq, rfl⟩)); rw [hp.opr q hq] at ho1; injection ho1 with ho1; subst ho1
                exact ⟨d, hd1, hr⟩
              obtain ⟨D', pl', codes2, n1, n2, n3, n7, n8, n4, n5, n6⟩ := Z27 g1 hPS.1 (fun p hpm hmem => by
                rcases List.mem_append.1 hmem with hmem | hmem
                · exact hF p hpm hmem
                · rw [List.mem_singleton] at hmem; exact h1 (hmem ▸ hpD p hpm)) (fun k hk => by
                rcases List.mem_append.1 hk with hk | hk
                · simp [hFD k hk]
                · simp [List.mem_singleton.1 hk]) hk4
              refine ih n2 n1 n3 n7 n8 (L.set hi fun j => ?_) ?_ hN3 hd3 n4 hQ
              · rw [n5 j]
                constructor
                · rintro (⟨q, hq, rfl⟩ | ⟨h6, h7⟩)
                  · exact ⟨.inl ⟨q, hq, rfl⟩, fun e => hiD (e ▸ hpD q hq)⟩
                  · exact ⟨.inr ⟨h6, fun h8 => h7 (by simp [h8])⟩, fun e => h7 (by simp [e])⟩
                · rintro ⟨⟨q, hq, rfl⟩ | ⟨h6, h7⟩, hne⟩
                  · exact .inl ⟨q, hq, rfl⟩
                  · exact .inr ⟨h6, by simp [h7, hne]⟩
              · have h8 : D.length < ops.toList.length := by
                  have h9 : (i :: D).Nodup := List.nodup_cons.2 ⟨hiD, hp.nodup⟩; have h10 := Z2q (m := List.range ops.toList.length) h9 (fun x hx => by
                    rcases List.mem_cons.1 hx with rfl | hx
                    · exact List.mem_range.2 his
                    · exact List.mem_range.2 (hp.lt x hx))
                  simp only [List.length_cons, List.length_range] at h10; omega
                simp only [List.length_append, List.length_cons, List.length_nil] at n6; omega
end

theorem AWp.plan {E : Env} {r : Option Nat} {Q : Exit → St → Prop} (codes : PT) (hΓ : Zg E.P E.Γ) (hmix : E.P.follows .mixedOrders = true) {id : Nat} {ops : List Oper} {tm : List AV} {h : List AObj} (hok : Z9k ops codes = true)
    (hk : Z03 E ops codes ⟨tm, h⟩ (Q .normal)) : AWp E r (.region id ops.toArray true) Q ⟨tm, h⟩ := fun X I w a hE hN => by
  simp only [Z9k, Bool.and_eq_true] at hok; refine wpIn_region_any hmix ?_; obtain ⟨I', μ', ob', hI, R⟩ := hN; have R' : Rep X I' μ' ob' ⟨tm, h⟩ { w with drawn := w.drawn + 1 } a := R.grow ⟨rfl, rfl, rfl, Nat.le_refl _, fun _ _ _ => rfl⟩ (fun _ h => h) (fun _ h => .inl h); obtain ⟨D', pl', codes2, n1, n2, n3, n7, n8, n4, n5, n6⟩ := Z27 (E := E) (h := h) (K := Q .normal) (tm := tm) (pl := []) hok.2 ⟨List.nodup_nil, by simp, by simp, by simp, List.Pairwise.nil⟩ (by simp) (by simp) hk; refine Zbg (K := Q .normal) (ops := ops.toArray) (by simpa using hok.1) hΓ hE _ (by simpa using n2) n1 (by simpa using n3) n7 n8 ⟨by simp, fun i => ?_, fun i o _ hl => ?_⟩ ?_ ⟨I', μ', ob', hI, R'⟩ rfl (by simpa using n4) (fun _ _ ⟨st', h1, _, h3⟩ => ⟨st', h1, h3⟩)
  · show _ ↔ ((∃ p ∈ pl', p.1 = i) ∨ (i < ops.toArray.toList.length ∧ i ∉ D'))
    have := n5 i; simp only [List.not_mem_nil, false_and, exists_false, not_false_eq_true, and_true, false_or] at this; simp only [this]
    constructor
    · intro hi
      rcases Nat.lt_or_ge i ops.length with h' | h'
      · exact h'
      · simp [h'] at hi
    · intro hi
      simp [hi]
  · exfalso
    rcases Nat.lt_or_ge i ops.length with h' | h'
    · simp [h'] at hl
    · simp [h'] at hl
  · simp only [List.length_nil, Nat.zero_add, Nat.sub_zero] at n6
    simp; omega
end Go.AM
end

section
namespace Go.AM
open Go.RowKit

def opQ (E : Env) (sl : List (Option Nat)) : List Oper → Nat → St → (St → Prop) → Prop
  | [], _, _, _ => False
  | o :: _, 0, st, K => (match o.guard with
    | none => Z6 E o.op st.h (ev st.tmps) fun v => K ⟨putD st.tmps o.dst v, st.h⟩
    | some (j, w) => gK (Z2k (sl.getD j none) st.tmps) w (Z6 E o.op st.h (ev st.tmps) fun v => K ⟨putD st.tmps o.dst v, st.h⟩) (K ⟨putD st.tmps o.dst (.tup []), st.h⟩))
  | _ :: l, i + 1, st, K => opQ E sl l i st K
def opF (E : Env) (sl : List (Option Nat)) : List Oper → Nat → St → (St → Prop) → Prop
  | [], _, _, _ => False
  | o :: _, 0, st, K => (match o.guard with
    | none => opK E o st K
    | some (j, w) => gK (Z2k (sl.getD j none) st.tmps) w (opK E o st K) (K ⟨putD st.tmps o.dst (.tup []), st.h⟩))
  | _ :: l, i + 1, st, K => opF E sl l i st K
def opS (E : Env) (sl : List (Option Nat)) : List Oper → Nat → St → Prop
  | [], _, _ => False
  | o :: _, 0, st => (match o.guard with
    | none => Z6 E o.op st.h (ev st.tmps) (okV st.tmps o.dst)
    | some (j, w) => gK (Z2k (sl.getD j none) st.tmps) w (Z6 E o.op st.h (ev st.tmps) (okV st.tmps o.dst)) (okV st.tmps o.dst (.tup [])))
  | _ :: l, i + 1, st => opS E sl l i st

def planL (E : Env) (ops : List Oper) (sl : List (Option Nat)) : PT → St → (St → Prop) → Prop
  | .fin, st, K => K st
  | .nil, _, _ => True
  | .q i l, st, K => opQ E sl ops i st fun st' => planL E ops sl l st' K
  | .e i l r, st, K => opF E sl ops i st (fun st' => planL E ops sl l st' K) ∧ planL E ops sl r st K
  | .s i l, st, K => opS E sl ops i st ∧ planL E ops sl l st K

section
variable {E : Env} {ops : List Oper}
theorem Z9m {st : St} {K : St → Prop} : ∀ (l : List Oper) (i : Nat), opQ E (ops.map (·.dst)) l i st K = (match l[i]? with
    | some o => Zr ops o.guard st.tmps (Z6 E o.op st.h (ev st.tmps) fun v => K ⟨putD st.tmps o.dst v, st.h⟩) (K ⟨putD st.tmps o.dst (.tup []), st.h⟩)
    | none => False)
  | [], _ => rfl
  | o :: l, 0 => by
    simp only [opQ, List.getElem?_cons_zero]
    cases hg : o.guard with
    | none => rfl
    | some p => obtain ⟨j, w⟩ := p; rw [Z1n]
  | o :: l, i + 1 => by
    rw [List.getElem?_cons_succ]; exact Z9m l i
theorem Z9o {st : St} {K : St → Prop} : ∀ (l : List Oper) (i : Nat), opF E (ops.map (·.dst)) l i st K = (match l[i]? with
    | some o => Zr ops o.guard st.tmps (opK E o st K) (K ⟨putD st.tmps o.dst (.tup []), st.h⟩)
    | none => False)
  | [], _ => rfl
  | o :: l, 0 => by
    simp only [opF, List.getElem?_cons_zero]
    cases hg : o.guard with
    | none => rfl
    | some p => obtain ⟨j, w⟩ := p; rw [Z1n]
  | o :: l, i + 1 => by
    rw [List.getElem?_cons_succ]; exact Z9o l i
theorem Z9l {st : St} : ∀ (l : List Oper) (i : Nat), opS E (ops.map (·.dst)) l i st = (match l[i]? with
    | some o => Zr ops o.guard st.tmps (Z6 E o.op st.h (ev st.tmps) (okV st.tmps o.dst)) (okV st.tmps o.dst (.tup []))
    | none => False)
  | [], _ => rfl
  | o :: l, 0 => by
    simp only [opS, List.getElem?_cons_zero]
    cases hg : o.guard with
    | none => rfl
    | some p => obtain ⟨j, w⟩ := p; rw [Z1n]
  | o :: l, i + 1 => by
    rw [List.getElem?_cons_succ]; exact Z9l l i

theorem Z2m : ∀ (codes : PT) (st : St) (K : St → Prop), Z03 E ops codes st K = planL E ops (ops.map (·.dst)) codes st K
  | .fin, _, _ => rfl
  | .nil, _, _ => rfl
  | .q i l, st, K => by
    have ih := Z2m l
    first
      | (simp only [Z03, planL, Z9m, ih]; done)
      | (simp only [Z03, planL, Z9m, ih]; cases ops[i]? <;> rfl)
  | .e i l r, st, K => by
    have ih := Z2m l; have ih2 := Z2m r
    first
      | (simp only [Z03, planL, Z9o, ih, ih2]; done)
      | (simp only [Z03, planL, Z9o, ih, ih2]; cases ops[i]? <;> rfl)
  | .s i l, st, K => by
    have ih := Z2m l
    first
      | (simp only [Z03, planL, Z9l, ih]; done)
      | (simp only [Z03, planL, Z9l, ih]; cases ops[i]? <;> rfl)
end

theorem AWp.planL {E : Env} {r : Option Nat} {Q : Exit → St → Prop} (codes : PT) (hΓ : Zg E.P E.Γ) (hmix : E.P.follows .mixedOrders = true) {id : Nat} {ops : List Oper} {tm : List AV} {h : List AObj} (hok : Z9k ops codes = true)
    (hk : AM.planL E ops (ops.map (·.dst)) codes ⟨tm, h⟩ (Q .normal)) : AWp E r (.region id ops.toArray true) Q ⟨tm, h⟩ := AWp.plan codes hΓ hmix hok (by rw [Z2m]; exact hk)

section
variable {E : Env} {ops l : List Oper} {sl sl' : List (Option Nat)} {tm : List AV} {h : List AObj} {st st' : St} {K : St → Prop} {codes codes' : PT}
@[go_sem] theorem Zhc : planL E ops sl .fin ⟨tm, h⟩ K = K ⟨tm, h⟩ := rfl
@[go_sem] theorem planL_q (i : Nat) : planL E ops sl (.q i codes) ⟨tm, h⟩ K = opQ E sl ops i ⟨tm, h⟩ fun st' => planL E ops sl codes st' K := rfl
@[go_sem] theorem planL_e (i : Nat) : planL E ops sl (.e i codes .nil) ⟨tm, h⟩ K = opF E sl ops i ⟨tm, h⟩ fun st' => planL E ops sl codes st' K := and_true _
@[go_sem] theorem planL_e2 (i j : Nat) (l r : PT) : planL E ops sl (.e i codes (.e j l r)) ⟨tm, h⟩ K = (opF E sl ops i ⟨tm, h⟩ (fun st' => planL E ops sl codes st' K) ∧ planL E ops sl (.e j l r) ⟨tm, h⟩ K) := rfl
@[go_sem] theorem planL_s (i : Nat) : planL E ops sl (.s i codes) ⟨tm, h⟩ K = (opS E sl ops i ⟨tm, h⟩ ∧ planL E ops sl codes ⟨tm, h⟩ K) := rfl
@[go_sem] theorem opQ_succ (o : Oper) (i : Nat) : opQ E sl (o :: l) (i + 1) ⟨tm, h⟩ K = opQ E sl l i ⟨tm, h⟩ K := rfl
@[go_sem] theorem Zhj (dst : Option Tmp) (op : Op) (ty : TypeId) (pos : String) (after : Array Edge) : opQ E sl (⟨dst, op, ty, pos, after, none⟩ :: l) 0 ⟨tm, h⟩ K = Z6 E op h (ev tm) fun v => K ⟨putD tm dst v, h⟩ := rfl
@[go_sem] theorem Zhk (dst : Option Tmp) (op : Op) (ty : TypeId) (pos : String) (after : Array Edge) (j : Nat) (w : Bool) : opQ E sl (⟨dst, op, ty, pos, after, some (j, w)⟩ :: l) 0 ⟨tm, h⟩ K =
  gK (Z2k (sl.getD j none) tm) w (Z6 E op h (ev tm) fun v => K ⟨putD tm dst v, h⟩) (K ⟨putD tm dst (.tup []), h⟩) := rfl
@[go_sem] theorem opF_succ (o : Oper) (i : Nat) : opF E sl (o :: l) (i + 1) ⟨tm, h⟩ K = opF E sl l i ⟨tm, h⟩ K := rfl
@[go_sem] theorem Zhx (dst : Option Tmp) (op : Op) (ty : TypeId) (pos : String) (after : Array Edge) : opF E sl (⟨dst, op, ty, pos, after, none⟩ :: l) 0 ⟨tm, h⟩ K = opK E ⟨dst, op, ty, pos, after, none⟩ ⟨tm, h⟩ K := rfl
@[go_sem] theorem Zhy (dst : Option Tmp) (op : Op) (ty : TypeId) (pos : String) (after : Array Edge) (j : Nat) (w : Bool) : opF E sl (⟨dst, op, ty, pos, after, some (j, w)⟩ :: l) 0 ⟨tm, h⟩ K =
  gK (Z2k (sl.getD j none) tm) w (opK E ⟨dst, op, ty, pos, after, some (j, w)⟩ ⟨tm, h⟩ K) (K ⟨putD tm dst (.tup []), h⟩) := rfl
@[go_sem] theorem opS_succ (o : Oper) (i : Nat) : opS E sl (o :: l) (i + 1) ⟨tm, h⟩ = opS E sl l i ⟨tm, h⟩ := rfl
@[go_sem] theorem Zhg (dst : Option Tmp) (op : Op) (ty : TypeId) (pos : String) (after : Array Edge) : opS E sl (⟨dst, op, ty, pos, after, none⟩ :: l) 0 ⟨tm, h⟩ = Z6 E op h (ev tm) (okV tm dst) := rfl
@[go_sem] theorem Zhh (dst : Option Tmp) (op : Op) (ty : TypeId) (pos : String) (after : Array Edge) (j : Nat) (w : Bool) : opS E sl (⟨dst, op, ty, pos, after, some (j, w)⟩ :: l) 0 ⟨tm, h⟩ =
  gK (Z2k (sl.getD j none) tm) w (Z6 E op h (ev tm) (okV tm dst)) (okV tm dst (.tup [])) := rfl
@[go_sem] theorem okV_some (d : Nat) (v : AV) : okV tm (some d) v = (tm.getD d .junk = v) := rfl
@[congr] theorem Zdl (h1 : hd sl = sl') (h2 : st = st') : planL E ops sl codes st K = planL E ops sl' codes st' K := by rw [Zd] at h1; rw [h1, h2]
@[congr] theorem Zhl {i : Nat} (h2 : hd st = st') : opQ E sl l i st K = opQ E sl l i st' K := by rw [Zd] at h2; rw [h2]
@[congr] theorem Zhz {i : Nat} (h2 : hd st = st') : opF E sl l i st K = opF E sl l i st' K := by rw [Zd] at h2; rw [h2]
@[congr] theorem Zhi {i : Nat} (h2 : hd st = st') : opS E sl l i st = opS E sl l i st' := by rw [Zd] at h2; rw [h2]
end
end Go.AM
end

section
namespace Go.AM
open Go.RowKit

theorem Rep.adoptCell {X : Ctx} {I : Nat → Prop} {μ : Nat → Value} {ob : Nat → Option Nat} {w : World} {st : St} {a : Act} {l : List PV} {cs : List AV} (R : Rep X I μ ob st w a) (c k : Nat) (E : TypeId) (s : Nat)
    (hc : st.h[c]? = some (.box cs)) (hk : cs[k]? = some (.full l)) (hs : ∀ x ∈ l, x.cells.length = s) : ∃ v, Rep X I (upd μ st.h.length v) (upd ob st.h.length none) ⟨st.tmps, st.h.set c (.box (cs.set k (.own st.h.length l.length))) ++ [.row E s l .lax]⟩ w a := by
  have hlt : c < st.h.length := (List.getElem?_eq_some_iff.1 hc).1; have hkl : k < cs.length := (List.getElem?_eq_some_iff.1 hk).1; obtain ⟨g, T, cur, h1, h2, h3, h4, h5⟩ := R.objs _ _ hc; have hv := h5 k hkl; rw [List.getD_eq_getElem?_getD, hk, Option.getD_some] at hv; generalize hcv : cur.getD k undef = cv at hv
  cases hv with
  | full _ ad h =>
    have R1 := R.toRepH.name (World.grownBy.refl w none) (v := .slice ad l.length l.length) (g := none) (o := .row E s l .lax) (by simp) ⟨hs, .inr ⟨rfl, Z5 _ _ _, ad, Z5 _ _ _, by rw [Z5]; exact h⟩⟩; have hne : c ≠ st.h.length := by omega
    have R2 := R1.write (b0 := c) (g0 := g) (o := .box (cs.set k (.own st.h.length l.length))) (by simp; omega) (by rw [Z2 _ _ hne]; exact h1) (World.grownBy.refl w (some g))
      ⟨g, T, cur, by rw [Z2 _ _ hne]; exact h1, by rw [Z2 _ _ hne]; exact h2, h3, by simpa using h4, fun i hi => by
        simp only [List.length_set] at hi; by_cases e : k = i
        · subst e
          rw [List.getD_eq_getElem?_getD, List.getElem?_set_self hkl, hcv]; exact .own _ _ _ _ (by simp) (Z5 _ _ _)
        · rw [List.getD_eq_getElem?_getD, List.getElem?_set_ne e, ← List.getD_eq_getElem?_getD]
          exact (h5 i hi).mono (by simp) (fun b hb => Z2 _ _ (by omega)) (fun _ h => h) (fun _ _ => rfl)⟩
    rw [List.set_append_left _ _ hlt] at R2; refine ⟨_, { toRepH := R2, size := R.size, tmps := fun j hj => (R.tmps j hj).mono (by simp) (fun b hb => Z2 _ _ (by omega)) (fun _ h => h) (fun _ _ => rfl), marks := ?_ }⟩; obtain ⟨rs, m1, m2, m3⟩ := R.marks; refine ⟨rs, m1, m2, fun q hq => ?_⟩; obtain ⟨e1, e2, e3, e4⟩ := m3 q hq; refine ⟨e1, e2, e3, fun b hb => ?_⟩; by_cases e : b = st.h.length
    · subst e; rw [Z5] at hb; cases hb
    · rw [Z2 _ _ e] at hb; exact e4 b hb

theorem AWp.adoptCell {E : Env} {r : Option Nat} {c : Code} {Q : Exit → St → Prop} {tm : List AV} {h : List AObj} {l : List PV} {cs : List AV} (b k : Nat) (t : TypeId) (s : Nat) (hb : h[b]? = some (.box cs)) (hk : cs[k]? = some (.full l)) (hs : ∀ x ∈ l, x.cells.length = s)
    (hw : AWp E r c Q ⟨tm, h.set b (.box (cs.set k (.own h.length l.length))) ++ [.row t s l .lax]⟩) : AWp E r c Q ⟨tm, h⟩ := fun X I w a hE ⟨I', μ', ob', hI, R⟩ => by
  obtain ⟨v, R'⟩ := R.adoptCell b k t s hb hk hs; exact hw X I w a hE ⟨I', _, _, hI, R'⟩

/-! ### Names forgotten -/
def AV.blw (n : Nat) : AV → Bool
  | .own b _ => decide (b < n)
  | .ptr b _ => decide (b < n)
  | .eptr b _ _ _ => decide (b < n)
  | .map b => decide (b < n)
  | .yld b => decide (b < n)
  | .fn _ caps => blwL n caps
  | .agg l => blwL n l
  | .tup l => blwL n l
  | _ => true
where blwL (n : Nat) : List AV → Bool
  | [] => true
  | v :: l => v.blw n && blwL n l
def AObj.blw (n : Nat) : AObj → Bool
  | .box cs => AV.blw.blwL n cs
  | .it m _ _ _ => decide (m < n)
  | .lp tm _ _ _ _ => AV.blw.blwL n tm
  | _ => true
def blwH (n : Nat) : List AObj → Bool
  | [] => true
  | o :: l => o.blw n && blwH n l

theorem Z17 {n : Nat} : ∀ {l : List AV}, AV.blw.blwL n l = true → ∀ i, (l.getD i .junk).blw n = true
  | [], _, i => by simp [AV.blw]
  | v :: l, h, i => by
    simp only [AV.blw.blwL, Bool.and_eq_true] at h
    cases i with
    | zero => exact h.1
    | succ i => rw [List.getD_cons_succ]; exact Z17 h.2 i
theorem Z8h {n : Nat} : ∀ {l : List AObj}, blwH n l = true → ∀ (i : Nat) (o : AObj), l[i]? = some o → o.blw n = true
  | v :: l, h, i, o, ho => by
    simp only [blwH, Bool.and_eq_true] at h
    cases i with
    | zero => injection ho with ho; subst ho; exact h.1
    | succ i => exact Z8h h.2 i o ho

theorem VR.blw {n m : Nat} {μ : Nat → Value} {I : Nat → Prop} {w : World} {x : AV} {v : Value} (hx : VR n μ I w x v) (hu : x.blw m = true) : VR m μ I w x v := by
  induction hx with
  | junk v => exact .junk v
  | cell v h => exact .cell v h
  | p x v h => exact .p x v h
  | full l a h => exact .full l a h
  | own b k a c hb h => exact .own b k a c (of_decide_eq_true hu) h
  | ptr b off g hb h => exact .ptr b off g (of_decide_eq_true hu) h
  | eptr b s i f g off k c hb h => exact .eptr b s i f g off k c (of_decide_eq_true hu) h
  | ipt l g off cur E fz vs hg hb hv hr => exact .ipt l g off cur E fz vs hg hb hv hr
  | map b r hb h => exact .map b r (of_decide_eq_true hu) h
  | yld b l hb h => exact .yld b l (of_decide_eq_true hu) h
  | fn f caps cs hl _ ih => exact .fn f caps cs hl fun i hi => ih i hi (Z17 hu i)
  | agg l cs hl _ ih => exact .agg l cs hl fun i hi => ih i hi (Z17 hu i)
  | tup l cs hl _ ih => exact .tup l cs hl fun i hi => ih i hi (Z17 hu i)
  | nil => exact .nil

theorem Rep.trim {X : Ctx} {I : Nat → Prop} {μ : Nat → Value} {ob : Nat → Option Nat} {w : World} {tm : List AV} {h h2 : List AObj} {a : Act} (R : Rep X I μ ob ⟨tm, h ++ h2⟩ w a) (hn : X.n0 ≤ h.length) (ht : AV.blw.blwL h.length tm = true) (hh : blwH h.length h = true) :
    ∃ ob', Rep X I μ ob' ⟨tm, h⟩ w a := by
  refine ⟨fun b => if b < h.length then ob b else none, {
    below := R.below, laid := R.laid, base := R.base, imm := R.imm, ctx := R.ctx, frz := R.frz, inew := R.inew, may := R.may, names := hn
    own := fun b g hb => ?_, sep := fun b b' g h1 h2 => ?_, past := fun b hb => ?_, objs := fun b o ho => ?_
    size := R.size, tmps := fun i hi => (R.tmps i hi).blw (Z17 ht i), marks := ?_ }⟩
  · split at hb
    · exact R.own b g hb
    · cases hb
  · split at h1
    · split at h2
      · exact R.sep b b' g h1 h2
      · cases h2
    · cases h1
  · rw [if_neg (by simp only at hb; omega)]
  · have hlt : b < h.length := (List.getElem?_eq_some_iff.1 ho).1
    have hob : (fun b => if b < h.length then ob b else none) b = ob b := by simp only; rw [if_pos hlt]
    have hO := R.objs b o (by simp only; rw [List.getElem?_append_left hlt]; exact ho); have hu := Z8h hh b o ho
    cases o with
    | dead => trivial
    | box cs =>
      obtain ⟨g, T, cur, h1, h2, h3, h4, h5⟩ := hO; exact ⟨g, T, cur, hob.trans h1, h2, h3, h4, fun i hi => (h5 i hi).blw (Z17 hu i)⟩
    | row E s xs k =>
      obtain ⟨h0, hO⟩ := hO; refine ⟨h0, ?_⟩; rcases hO with ⟨g, h1, h2⟩ | ⟨h1, h2, a, h3, h4⟩
      · exact .inl ⟨g, hob.trans h1, h2⟩
      · exact .inr ⟨h1, hob.trans h2, a, h3, h4⟩
    | mp es =>
      obtain ⟨r, ents, h1, h2, h3, h4, h5, h6⟩ := hO; exact ⟨r, ents, hob.trans h1, h2, h3, h4, h5, h6⟩
    | mpi es =>
      obtain ⟨r, ents, h1, h2, h3, h4, h5, h6⟩ := hO; exact ⟨r, ents, hob.trans h1, h2, h3, h4, h5, h6⟩
    | sit s pos =>
      obtain ⟨r, bs, h1, h2, h3, h4⟩ := hO; exact ⟨r, bs, hob.trans h1, h2, h3, h4⟩
    | it m since seen last =>
      obtain ⟨r, g, h0, h1, h2, h3, h4, h5⟩ := hO; exact ⟨r, g, of_decide_eq_true hu, hob.trans h1, h2, h3, h4, h5⟩
    | lp tm ps assign body s =>
      obtain ⟨l, rec, h1, h2, h3, h4, h5, h6⟩ := hO; exact ⟨l, rec, hob.trans h1, h2, h3, h4, fun i hi => (h5 i hi).blw (Z17 hu i), h6⟩
  · obtain ⟨rs, m1, m2, m3⟩ := R.marks
    refine ⟨rs, m1, m2, fun q hq => ?_⟩; obtain ⟨e1, e2, e3, e4⟩ := m3 q hq; refine ⟨e1, e2, e3, fun b hb => ?_⟩; simp only at hb
    split at hb
    · exact e4 b hb
    · cases hb

theorem AWp.trim {E : Env} {r : Option Nat} {c : Code} {Q : Exit → St → Prop} {tm : List AV} {h h2 : List AObj} (hn : E.n0 ≤ h.length) (ht : AV.blw.blwL h.length tm = true) (hh : blwH h.length h = true)
    (hw : AWp E r c Q ⟨tm, h⟩) : AWp E r c Q ⟨tm, h ++ h2⟩ := fun X I w a hE ⟨I', μ', ob', hI, R⟩ => by
  obtain ⟨ob2, R'⟩ := R.trim (by rw [hE.1]; exact hn) ht hh; exact hw X I w a hE ⟨I', _, _, hI, R'⟩
theorem AWp.trimN {E : Env} {r : Option Nat} {c : Code} {Q : Exit → St → Prop} {tm : List AV} {h : List AObj} (n : Nat) (hn : E.n0 ≤ (h.take n).length) (ht : AV.blw.blwL (h.take n).length tm = true) (hh : blwH (h.take n).length (h.take n) = true)
    (hw : AWp E r c Q ⟨tm, h.take n⟩) : AWp E r c Q ⟨tm, h⟩ := by
  rw [← List.take_append_drop n h]; exact .trim hn ht hh hw

/-! ### Two names exchanged -/
def swN (b c x : Nat) : Nat := if x = b then c else if x = c then b else x
theorem Z2x (b c x : Nat) : swN b c (swN b c x) = x := by
  unfold swN; by_cases h1 : x = b
  · subst h1; rw [if_pos rfl]; by_cases h2 : c = x
    · subst h2; simp
    · rw [if_neg h2, if_pos rfl]
  · rw [if_neg h1]
    by_cases h2 : x = c
    · subst h2; rw [if_pos rfl, if_pos rfl]
    · rw [if_neg h2, if_neg h1, if_neg h2]
theorem Z4o {b c x n : Nat} (hb : b < n) (hc : c < n) (hx : x < n) : swN b c x < n := by
  unfold swN
  split
  · exact hc
  · split
    · exact hb
    · exact hx
def AV.sw (b c : Nat) : AV → AV
  | .own x n => .own (swN b c x) n
  | .ptr x o => .ptr (swN b c x) o
  | .eptr x s i f => .eptr (swN b c x) s i f
  | .map x => .map (swN b c x)
  | .yld x => .yld (swN b c x)
  | .fn f caps => .fn f (swL b c caps)
  | .agg l => .agg (swL b c l)
  | .tup l => .tup (swL b c l)
  | v => v
where swL (b c : Nat) : List AV → List AV
  | [] => []
  | v :: l => v.sw b c :: swL b c l
theorem Z95 (b c : Nat) (l : List AV) : AV.sw.swL b c l = l.map (AV.sw b c) := by
  induction l with
  | nil => rfl
  | cons v l ih => simp [AV.sw.swL, ih]
def AObj.sw (b c : Nat) : AObj → AObj
  | .box cs => .box (cs.map (AV.sw b c))
  | .it m since seen last => .it (swN b c m) since seen last
  | .lp tm ps assign body s => .lp (tm.map (AV.sw b c)) ps assign body s
  | o => o

theorem VR.sw {n : Nat} {μ : Nat → Value} {I : Nat → Prop} {w : World} {x : AV} {v : Value} {b c : Nat} (hb : b < n) (hc : c < n) (h : VR n μ I w x v) : VR n (fun y => μ (swN b c y)) I w (x.sw b c) v := by
  have e : ∀ y, (fun y => μ (swN b c y)) (swN b c y) = μ y := fun y => by simp only [Z2x]
  induction h with
  | junk v => exact .junk v
  | cell v h => exact .cell v h
  | p x v h => exact .p x v h
  | full l a h => exact .full l a h
  | own y k a cc hy h => exact .own _ _ _ _ (Z4o hb hc hy) ((e y).trans h)
  | ptr y off g hy h => exact .ptr _ _ _ (Z4o hb hc hy) ((e y).trans h)
  | eptr y s i f g off k cc hy h => exact .eptr _ _ _ _ _ _ _ _ (Z4o hb hc hy) ((e y).trans h)
  | ipt l g off cur E fz vs hg hw hv hr => exact .ipt l g off cur E fz vs hg hw hv hr
  | map y r hy h => exact .map _ _ (Z4o hb hc hy) ((e y).trans h)
  | yld y l hy h => exact .yld _ _ (Z4o hb hc hy) ((e y).trans h)
  | fn f caps cs hl _ ih =>
    unfold AV.sw; rw [Z95]; exact .fn f _ cs (by simpa using hl) fun i hi => by rw [Z9 (by simpa using hi)]; exact ih i (by simpa using hi)
  | agg l cs hl _ ih =>
    unfold AV.sw; rw [Z95]; exact .agg _ cs (by simpa using hl) fun i hi => by rw [Z9 (by simpa using hi)]; exact ih i (by simpa using hi)
  | tup l cs hl _ ih =>
    unfold AV.sw; rw [Z95]; exact .tup _ cs (by simpa using hl) fun i hi => by rw [Z9 (by simpa using hi)]; exact ih i (by simpa using hi)
  | nil => exact .nil

theorem ObjOK.sw {n : Nat} {μ : Nat → Value} {I : Nat → Prop} {ob : Nat → Option Nat} {w : World} {x b c : Nat} {o : AObj} (hb : b < n) (hc : c < n) (h : ObjOK n μ I ob w x o) :
    ObjOK n (fun y => μ (swN b c y)) I (fun y => ob (swN b c y)) w (swN b c x) (o.sw b c) := by
  have e : ∀ y, (fun y => μ (swN b c y)) (swN b c y) = μ y := fun y => by simp only [Z2x]
  have e2 : ∀ y, (fun y => ob (swN b c y)) (swN b c y) = ob y := fun y => by simp only [Z2x]
  cases o with
  | dead => trivial
  | box cs =>
    obtain ⟨g, T, cur, h1, h2, h3, h4, h5⟩ := h; refine ⟨g, T, cur, (e2 x).trans h1, (e x).trans h2, h3, by simpa using h4, fun i hi => ?_⟩; simp only [List.length_map] at hi; rw [Z9 hi]; exact (h5 i hi).sw hb hc
  | row E s xs k =>
    obtain ⟨h0, h⟩ := h; refine ⟨h0, ?_⟩; have e3 := e x; rcases h with ⟨g, h1, h2⟩ | ⟨h1, h2, a, h3, h4⟩
    · exact .inl ⟨g, (e2 x).trans h1, by rw [e3]; exact h2⟩
    · exact .inr ⟨h1, (e2 x).trans h2, a, e3.trans h3, by rw [e3]; exact h4⟩
  | mp es =>
    obtain ⟨r, ents, h1, h2, h3, h4, h5, h6⟩ := h; exact ⟨r, ents, (e2 x).trans h1, (e x).trans h2, h3, h4, h5, h6⟩
  | mpi es =>
    obtain ⟨r, ents, h1, h2, h3, h4, h5, h6⟩ := h; exact ⟨r, ents, (e2 x).trans h1, (e x).trans h2, h3, h4, h5, h6⟩
  | sit s pos =>
    obtain ⟨r, bs, h1, h2, h3, h4⟩ := h; exact ⟨r, bs, (e2 x).trans h1, (e x).trans h2, h3, h4⟩
  | it m since seen last =>
    obtain ⟨r, g, h0, h1, h2, h3, h4, h5⟩ := h; exact ⟨r, g, Z4o hb hc h0, (e2 x).trans h1, (e x).trans h2, (e m).trans h3, h4, h5⟩
  | lp tm ps assign body s =>
    obtain ⟨l, rec, h1, h2, h3, h4, h5, h6⟩ := h; refine ⟨l, rec, (e2 x).trans h1, (e x).trans h2, h3, by simpa using h4, fun i hi => ?_, h6⟩; simp only [List.length_map] at hi; rw [Z9 hi]; exact (h5 i hi).sw hb hc

theorem Rep.sw {X : Ctx} {I : Nat → Prop} {μ : Nat → Value} {ob : Nat → Option Nat} {w : World} {tm : List AV} {h : List AObj} {a : Act} {b c : Nat} {p q : AObj} (R : Rep X I μ ob ⟨tm, h⟩ w a) (hb : h[b]? = some p) (hc : h[c]? = some q) (hnb : X.n0 ≤ b) (hnc : X.n0 ≤ c) :
    Rep X I (fun y => μ (swN b c y)) (fun y => ob (swN b c y)) ⟨tm.map (AV.sw b c), ((h.map (AObj.sw b c)).set b (q.sw b c)).set c (p.sw b c)⟩ w a := by
  have hbl : b < h.length := (List.getElem?_eq_some_iff.1 hb).1; have hcl : c < h.length := (List.getElem?_eq_some_iff.1 hc).1; have hget : ∀ (x : Nat) (o : AObj), (((h.map (AObj.sw b c)).set b (q.sw b c)).set c (p.sw b c))[x]? = some o → ∃ o', h[swN b c x]? = some o' ∧ o = o'.sw b c := fun x o ho => by
    unfold swN; by_cases e1 : c = x
    · subst e1
      rw [List.getElem?_set_self (by simpa using hcl)] at ho
      injection ho with ho
      by_cases e2 : c = b
      · subst e2; rw [if_pos rfl]; rw [hb] at hc; injection hc with hc; subst hc; exact ⟨_, hb, ho.symm⟩
      · rw [if_neg e2, if_pos rfl]; exact ⟨_, hb, ho.symm⟩
    · rw [List.getElem?_set_ne e1] at ho
      by_cases e2 : b = x
      · subst e2
        rw [List.getElem?_set_self (by simpa using hbl)] at ho
        injection ho with ho
        rw [if_pos rfl]; exact ⟨_, hc, ho.symm⟩
      · rw [List.getElem?_set_ne e2, List.getElem?_map] at ho
        rw [if_neg (fun e => e2 e.symm), if_neg (fun e => e1 e.symm)]
        cases hx : h[x]? with
        | none => rw [hx] at ho; cases ho
        | some o' => rw [hx] at ho; simp only [Option.map_some, Option.some.injEq] at ho; exact ⟨o', rfl, ho.symm⟩
  exact {
    below := R.below, laid := R.laid, base := R.base, imm := R.imm, ctx := R.ctx, frz := R.frz, inew := R.inew
    may := fun y hy => by
      have h1 : y ≠ b := fun e => hy (.inl (by rw [e]; exact hnb))
      have h2 : y ≠ c := fun e => hy (.inl (by rw [e]; exact hnc))
      show μ (swN b c y) = _; unfold swN; rw [if_neg h1, if_neg h2]; exact R.may y hy
    names := by simpa using R.names
    own := fun y g hy => R.own _ g hy
    sep := fun y y' g h1 h2 => by
      have := R.sep _ _ g h1 h2; have h3 := congrArg (swN b c) this
      rwa [Z2x, Z2x] at h3
    past := fun y hy => by
      simp only [List.length_set, List.length_map] at hy; show ob (swN b c y) = none; unfold swN; rw [if_neg (by omega), if_neg (by omega)]; exact R.past y hy
    objs := fun x o ho => by
      obtain ⟨o', h1, rfl⟩ := hget x o ho; have := (R.objs _ o' h1).sw (b := b) (c := c) hbl hcl; rw [Z2x] at this
      simpa using this
    size := by simpa using R.size
    tmps := fun i hi => by
      simp only [List.length_map] at hi; simp only [List.length_set, List.length_map]; rw [Z9 hi]; exact (R.tmps i hi).sw hbl hcl
    marks := by
      obtain ⟨rs, m1, m2, m3⟩ := R.marks; exact ⟨rs, m1, m2, fun q hq => by
        obtain ⟨e1, e2, e3, e4⟩ := m3 q hq; exact ⟨e1, e2, e3, fun b' => e4 _⟩⟩ }

theorem AWp.swap {E : Env} {r : Option Nat} {k : Code} {Q : Exit → St → Prop} {tm : List AV} {h : List AObj} (b c : Nat) {p q : AObj} (hb : h[b]? = some p) (hc : h[c]? = some q) (hnb : E.n0 ≤ b) (hnc : E.n0 ≤ c)
    (hw : AWp E r k Q ⟨tm.map (AV.sw b c), ((h.map (AObj.sw b c)).set b (q.sw b c)).set c (p.sw b c)⟩) : AWp E r k Q ⟨tm, h⟩ := fun X I w a hE ⟨I', μ', ob', hI, R⟩ =>
  hw X I w a hE ⟨I', _, _, hI, R.sw hb hc (by rw [hE.1]; exact hnb) (by rw [hE.1]; exact hnc)⟩

theorem AWp.two {E : Env} {r : Option Nat} {k : Code} {Q : Exit → St → Prop} {s1 : St} {tm : List AV} {h : List AObj} (b c : Nat) {p q : AObj} (st : St) (hb : h[b]? = some p) (hc : h[c]? = some q) (hnb : E.n0 ≤ b) (hnc : E.n0 ≤ c)
    (h1 : Weak s1 st) (h2 : Weak ⟨tm.map (AV.sw b c), ((h.map (AObj.sw b c)).set b (q.sw b c)).set c (p.sw b c)⟩ st) (hw : AWp E r k Q st) : AWp E r k Q s1 ∧ AWp E r k Q ⟨tm, h⟩ :=
  ⟨.weak h1 hw, .swap b c hb hc hnb hnc (.weak h2 hw)⟩

def weakD : List AObj → List AObj → Prop
  | _, [] => True
  | x :: l, y :: l' => (y = .dead ∨ y = x ∨ Z8r x y) ∧ weakD l l'
  | [], _ :: _ => False
def Zaw (st st' : St) : Prop := Z6v st.tmps st'.tmps ∧ weakD st.h st'.h
theorem Z7q : ∀ {h h' : List AObj}, weakD h h' → ∃ h1 h2, h = h1 ++ h2 ∧ Z4j h1 h' ∧ h1.length = h'.length
  | h, [], _ => ⟨[], h, rfl, trivial, rfl⟩
  | x :: l, y :: l', h => by
    obtain ⟨h1, h2, e, hw, hl⟩ := Z7q h.2; exact ⟨x :: h1, h2, by rw [e]; rfl, ⟨h.1, hw⟩, by simp [hl]⟩
theorem Z3u (m : List AObj) : weakD m [] = True := by cases m <;> rfl
theorem Z5r : ∀ {h1 h' : List AObj} (h2 : List AObj), Z4j h1 h' → Z4j (h1 ++ h2) (h' ++ h2)
  | [], [], _, _ => Zm _
  | _ :: _, _ :: _, h2, h => ⟨h.1, Z5r h2 h.2⟩

def Z1z (n0 : Nat) (st : St) : Prop := n0 ≤ st.h.length ∧ AV.blw.blwL st.h.length st.tmps = true ∧ blwH st.h.length st.h = true

theorem Now.weakD {X : Ctx} {I : Nat → Prop} {w : World} {a : Act} {st st' : St} (h : Zaw st st') (hb : Z1z X.n0 st') (hN : Now X I st w a) : Now X I st' w a := by
  obtain ⟨h1, h2, e, hw, _⟩ := Z7q h.2; have hN2 : Now X I ⟨st'.tmps, st'.h ++ h2⟩ w a := Now.weak (st := st) ⟨h.1, by rw [e]; exact Z5r h2 hw⟩ hN; obtain ⟨I', μ', ob', hI, R⟩ := hN2; obtain ⟨ob2, R'⟩ := R.trim hb.1 hb.2.1 hb.2.2; exact ⟨I', μ', ob2, hI, R'⟩

theorem AWp.weakD {E : Env} {r : Option Nat} {c : Code} {Q : Exit → St → Prop} {st st' : St} (h : Zaw st st') (hb : Z1z E.n0 st') (hw : AWp E r c Q st') : AWp E r c Q st :=
  fun X I w a hE hN => hw X I w a hE (hN.weakD h (by rw [hE.1]; exact hb))

theorem AWp.loopJ {E : Env} {r : Option Nat} {Q : Exit → St → Prop} {st : St} {c : Code} {α : Type} (fr : α → St) (Inv : α → Prop) (m : α → Nat) (x0 : α) (hb : ∀ x, Z1z E.n0 (fr x)) (hw : Zaw st (fr x0)) (h0 : Inv x0)
    (h : ∀ x, Inv x → AWp E r c (Z3f (fun st' => ∃ y, Zaw st' (fr y) ∧ Inv y ∧ m y < m x) Q) (fr x)) : AWp E r (.loop c) Q st := by
  refine AWp.weakD hw (hb x0) (AWp.loopI fr Inv m x0 (Weak.refl _) h0 fun x hx => ?_); intro X I w a hE hN; refine wpIn_mono (h x hx X I w a hE hN) ?_; rintro e a' w' ⟨st', hN', hq⟩
  cases e with
  | normal =>
    obtain ⟨y, h1, h2, h3⟩ := hq; exact ⟨fr y, hN'.weakD h1 (by rw [hE.1]; exact hb y), y, Weak.refl _, h2, h3⟩
  | _ => exact ⟨st', hN', hq⟩

attribute [go_sem] Z3u weakD Zaw

theorem AWp.mpi0 {E : Env} {r : Option Nat} {c : Code} {Q : Exit → St → Prop} {tm : List AV} {h : List AObj} (b : Nat) (hb : h[b]? = some (.mp [])) (hw : AWp E r c Q ⟨tm, h.set b (.mpi [])⟩) : AWp E r c Q ⟨tm, h⟩ :=
  fun X I w a hE ⟨I', μ', ob', hI, R⟩ => hw X I w a hE ⟨I', μ', ob', hI, {
    below := R.below, laid := R.laid, base := R.base, imm := R.imm, ctx := R.ctx, frz := R.frz, inew := R.inew, may := R.may, names := by simpa using R.names, own := R.own, sep := R.sep, past := fun k hk => R.past k (by simpa using hk)
    objs := fun k o ho => by
      simp only at ho ⊢; rw [List.length_set]; have hlt : b < h.length := (List.getElem?_eq_some_iff.1 hb).1; by_cases e : b = k
      · subst e
        rw [List.getElem?_set_self hlt] at ho
        injection ho with ho
        subst ho; exact (R.objs b _ hb).asI rfl
      · rw [List.getElem?_set_ne e] at ho
        exact R.objs k o ho
    size := R.size, tmps := fun i hi => by simp only; rw [List.length_set]; exact R.tmps i hi, marks := R.marks }⟩

theorem AWp.seqTo {E : Env} {r : Option Nat} {Q : Exit → St → Prop} {st : St} {x y : Code} (st0 : St) (h2 : AWp E r y Q st0) (h1 : AWp E r y Q st0 → AWp E r x (Z3f (AWp E r y Q) Q) st) : AWp E r (.seq x y) Q st := AWp.seq (h1 h2)


theorem AWp.fullP {E : Env} {r : Option Nat} {Q : Exit → St → Prop} {c : Code} {tm : List AV} {h : List AObj} {l : List PV} (i : Nat) (hi : tm.getD i .junk = .full l) (hw : AWp E r c Q ⟨tm.set i (.p (.sl l)), h⟩) : AWp E r c Q ⟨tm, h⟩ := by
  intro X I w a hE hN; obtain ⟨I', μ', ob', hI, R⟩ := hN; refine hw X I w a hE ⟨I', μ', ob', hI, { toRepH := R.toRepH, marks := R.marks, size := (by simpa using R.size), tmps := ?_ }⟩; intro j hj; have hj' : j < tm.length := by simpa using hj
  have h1 := R.tmps j hj'; show VR _ _ _ _ ((tm.set i (.p (.sl l))).getD j .junk) _; by_cases e : i = j
  · subst e
    have e2 : (tm.set i (.p (.sl l))).getD i .junk = .p (.sl l) := by simp [List.getD_eq_getElem?_getD, hj']
    rw [e2]; simp only at h1; rw [hi] at h1; generalize a.tmps.getD i undef = v at h1 ⊢
    cases h1 with
    | full _ _ h => exact .p _ _ h
  · have e2 : (tm.set i (.p (.sl l))).getD j .junk = tm.getD j .junk := by simp [List.getD_eq_getElem?_getD, e]
    rw [e2]; exact h1

end Go.AM
end

