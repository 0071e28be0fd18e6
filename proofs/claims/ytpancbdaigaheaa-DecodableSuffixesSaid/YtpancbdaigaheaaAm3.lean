/-
  AM 3: the operations that write nothing, continued: memory read, slices, fields, calls of builtins.
-/
import Derived.Test.YtpancbdaigaheaaAm2
namespace Go.AM
open Go.RowKit

def AV.ofCell : Value → AV
  | .bool b => .p (.bool b)
  | .int k n => .p (.int k n)
  | .string s => .p (.str s.data.toList)
  | .slice none 0 0 => .full []
  | .agg _ => .junk
  | .tuple _ => .junk
  | _ => .cell
def AV.ofValue : Value → AV
  | .agg cs => .agg (cs.toList.map AV.ofCell)
  | v => AV.ofCell v
def ev (tm : List AV) : Operand → AV
  | .tmp t => tm.getD t .junk
  | .const v => AV.ofValue v
  | .global _ => .junk
  | .func f => .fn f []

section
variable {P : Program} {n : Nat} {μ : Nat → Value} {I : Nat → Prop} {w : World}

theorem VR.ofCell (v : Value) : VR n μ I w (AV.ofCell v) v := by
  unfold AV.ofCell
  split
  · exact .mkBool _
  · exact .mkInt _ _
  · exact .mkStr rfl
  · exact .full [] none (.sl0 none 0 (fun _ => rfl))
  · exact .junk _
  · exact .junk _
  · rename_i h1 h2 h3
    refine .cell _ ?_
    cases v <;> first | rfl | exact absurd rfl (h1 _) | exact absurd rfl (h2 _) | exact absurd rfl (h3 _)

theorem VR.ofValue (v : Value) : VR n μ I w (AV.ofValue v) v := by
  unfold AV.ofValue
  split
  · rename_i cs
    have := VR.agg (n := n) (μ := μ) (I := I) (w := w) (cs.toList.map AV.ofCell) cs.toList (by simp) (fun i hi => by
      simp only [List.length_map] at hi
      simp only [List.getD_eq_getElem?_getD, List.getElem?_map, List.getElem?_eq_getElem hi, Option.map_some, Option.getD_some]
      exact .ofCell _)
    simpa using this
  · exact .ofCell v

theorem VR.ev {tm : List AV} {a : Act} (h : ∀ i, i < tm.length → VR n μ I w (tm.getD i .junk) (a.tmps.getD i undef)) (x : Operand) : VR n μ I w (ev tm x) (a.eval x) := by
  cases x with
  | tmp t =>
    by_cases ht : t < tm.length
    · exact h t ht
    · simp only [AM.ev, Act.eval, List.getD_eq_getElem?_getD, List.getElem?_eq_none (Nat.le_of_not_lt ht), Option.getD_none]
      exact .junk _
  | const v => exact .ofValue v
  | global g => exact .junk _
  | func f => exact .fn f [] [] rfl (fun i hi => by simp at hi)

/-! slices: as handles -/
/-- A slice that can be read without the heap. -/
def AV.list : AV → Option (List PV)
  | .p (.sl l) => some l
  | .full l => some l
  | _ => none

theorem VR.list_inv {x : AV} {v : Value} {l : List PV} (hx : VR n μ I w x v) (h : x.list = some l) : PR I w (.sl l) v := by
  cases hx with
  | p x v h' => cases x with
    | sl l' => simp only [AV.list] at h; injection h with h; subst h; exact h'
    | _ => simp [AV.list] at h
  | full l' a h' => simp only [AV.list] at h; injection h with h; subst h; exact h'
  | _ => simp [AV.list] at h

theorem PR.sl_len {v : Value} {l : List PV} (h : PR I w (.sl l) v) : ∃ a c, v = .slice a l.length c ∧ l.length ≤ c ∧ (a = none → c = 0) := by
  cases h with
  | sl0 a cap ha => exact ⟨a, cap, rfl, Nat.zero_le _, ha⟩
  | sl l s g off cap cur E fz vs hl hI hw hc hs hv hr => exact ⟨_, cap, rfl, hc, by simp⟩

theorem PR.sl_at {v : Value} {l : List PV} (h : PR I w (.sl l) v) {i : Nat} (hi : i < l.length) :
    ∃ g off c s, v = .slice (some ⟨g, off, none⟩) l.length c ∧ (∀ x ∈ l, x.cells.length = s) ∧
      VR n μ I w (.ipt (l.getD i default).cells) (.pointer (some ⟨g, off + i * s, none⟩)) := by
  cases h with
  | sl0 a cap ha => simp at hi
  | sl l s g off cap cur E fz vs hl hI hw hc hs hv hr =>
    refine ⟨g, off, cap, s, rfl, hs, ?_⟩
    have hlen : (l.getD i default).cells.length = s := hs _ (by
      rw [List.getD_eq_getElem?_getD, List.getElem?_eq_getElem hi, Option.getD_some]; exact List.getElem_mem hi)
    have hb : ∀ j, j < s → i * s + j < l.length * s := fun j hj => by
      have h1 : (i + 1) * s ≤ l.length * s := Nat.mul_le_mul_right _ hi
      rw [Nat.add_mul, Nat.one_mul] at h1; omega
    refine .ipt _ g _ cur E fz (fun j => vs (i * s + j)) hI hw (fun j hj => ?_) (fun j hj => hr i j hi (by omega))
    rw [hlen] at hj
    rw [Nat.add_assoc]; exact hv _ (hb j hj)

/-! len -/
def lenK (Γ : Gam) (t : TypeId) (x : AV) (h : List AObj) (K : AV → Prop) : Prop :=
  match x with
  | .p (.str s) => tdAt Γ t .str ∧ K (.p (.int .i64 s.length))
  | .p (.sl l) => (∃ e, tdAt Γ t (.slice e)) ∧ K (.p (.int .i64 l.length))
  | .full l => (∃ e, tdAt Γ t (.slice e)) ∧ K (.p (.int .i64 l.length))
  | .own _ n => (∃ e, tdAt Γ t (.slice e)) ∧ K (.p (.int .i64 n))
  | .map b => (∃ k e, tdAt Γ t (.map k e)) ∧ (match h[b]? with | some (.mp es) => K (.p (.int .i64 es.length)) | _ => False)
  | _ => False

theorem len_ok {Γ : Gam} (hΓ : GamOK P Γ) {t ty : TypeId} {x : AV} {v : Value} {h : List AObj} {ob : Nat → Option Nat} {K : AV → Prop} (hx : VR n μ I w x v)
    (hobj : ∀ b o, h[b]? = some o → ObjOK n μ I ob w b o) (hk : lenK Γ t x h K) :
    ∃ a cv, (Builtin.len_ #[t] ty #[v]).run P w = .ok cv w ∧ VR n μ I w a cv ∧ K a := by
  unfold lenK at hk
  split at hk
  · obtain ⟨ht, hk⟩ := hk
    obtain ⟨td, hu, hd⟩ := ht.und hΓ
    simp only [descOK] at hd; subst hd
    obtain ⟨b, rfl, rfl⟩ := hx.str_inv
    exact ⟨_, _, run_len_string (P := P) (w := w) t ty b hu, by
      have : (b.size : Int) = (b.data.toList.length : Int) := by rw [Array.length_toList]; rfl
      rw [goInt, this]; exact .mkInt _ _, hk⟩
  · obtain ⟨⟨e, ht⟩, hk⟩ := hk
    obtain ⟨td, hu, hd⟩ := ht.und hΓ
    simp only [descOK] at hd; subst hd
    obtain ⟨a, c, rfl, _, _⟩ := (hx.list_inv (l := _) rfl).sl_len
    exact ⟨_, _, by simp [Builtin.len_, run_underlying hu]; rfl, .mkInt _ _, hk⟩
  · obtain ⟨⟨e, ht⟩, hk⟩ := hk
    obtain ⟨td, hu, hd⟩ := ht.und hΓ
    simp only [descOK] at hd; subst hd
    obtain ⟨a, c, rfl, _, _⟩ := (hx.list_inv (l := _) rfl).sl_len
    exact ⟨_, _, by simp [Builtin.len_, run_underlying hu]; rfl, .mkInt _ _, hk⟩
  · obtain ⟨⟨e, ht⟩, hk⟩ := hk
    obtain ⟨td, hu, hd⟩ := ht.und hΓ
    simp only [descOK] at hd; subst hd
    cases hx with
    | own b k a c hb h => exact ⟨_, _, by simp [Builtin.len_, run_underlying hu]; rfl, .mkInt _ _, hk⟩
  · obtain ⟨⟨k, e, ht⟩, hk⟩ := hk
    obtain ⟨td, hu, hd⟩ := ht.und hΓ
    simp only [descOK] at hd; subst hd
    split at hk
    · rename_i es hes
      cases hx with
      | map b r hb hm =>
        obtain ⟨r', ents, _, hm', hw, hl, _⟩ := hobj _ _ hes
        rw [hm] at hm'; injection hm' with hm'; injection hm' with hm'; subst hm'
        exact ⟨_, .int .i64 ents.size, by simp [Builtin.len_, run_underlying hu, getObj, Sem.run, hw, goInt], by rw [← hl]; exact .mkInt _ _, hk⟩
    · exact hk.elim
  · exact hk.elim

/-! extract, pick, unary -/
def extK (x : AV) (i : Nat) (K : AV → Prop) : Prop :=
  match x with
  | .tup l => i < l.length ∧ K (l.getD i .junk)
  | _ => False
theorem ext_ok {x : AV} {i : Nat} {v : Value} {K : AV → Prop} (hx : VR n μ I w x v) (hk : extK x i K) :
    ∃ a cv, (Instr.extract v i).run P w = .ok cv w ∧ VR n μ I w a cv ∧ K a := by
  unfold extK at hk
  split at hk
  · cases hx with
    | tup l cs hl hr =>
      refine ⟨_, cs.getD i undef, ?_, hr i hk.1, hk.2⟩
      have hi : i < cs.length := by have := hk.1; omega
      simp [Instr.extract, List.getElem?_eq_getElem hi, List.getD_eq_getElem?_getD]
  · exact hk.elim

def pickK (c x y : AV) (K : AV → Prop) : Prop :=
  match c with
  | .p (.bool b) => (match x, y with
    | .p (.bool p), .p (.bool q) => K (.p (.bool (bif b then p else q)))
    | x, y => (b = true → K x) ∧ (b = false → K y))
  | _ => False
theorem pick_ok {c x y : AV} {vc vx vy : Value} {K : AV → Prop} (hc : VR n μ I w c vc) (hx : VR n μ I w x vx) (hy : VR n μ I w y vy) (hk : pickK c x y K) :
    ∃ a cv, (do pure (.value (if ← asBool vc then vx else vy)) : Sem Next).run P w = .ok (.value cv) w ∧ VR n μ I w a cv ∧ K a := by
  unfold pickK at hk
  split at hk
  · rw [hc.bool_inv]
    rename_i b
    split at hk
    · rw [hx.bool_inv, hy.bool_inv]
      exact ⟨_, _, by simp [asBool]; rfl, by cases b <;> exact .mkBool _, hk⟩
    · cases b with
      | true => exact ⟨_, _, by simp [asBool], hx, hk.1 rfl⟩
      | false => exact ⟨_, _, by simp [asBool], hy, hk.2 rfl⟩
  · exact hk.elim

def unK (op : UnOp) (x : AV) (K : AV → Prop) : Prop :=
  match op, x with
  | .not, .p (.bool b) => K (.p (.bool (!b)))
  | .neg, .p (.int k a) => InR k (-a) ∧ K (.p (.int k (-a)))
  | _, _ => False
theorem un_ok {op : UnOp} {x : AV} {v : Value} {K : AV → Prop} (hx : VR n μ I w x v) (hk : unK op x K) :
    ∃ a cv, (Op.unary op v).run P w = .ok cv w ∧ VR n μ I w a cv ∧ K a := by
  unfold unK at hk
  split at hk
  · rw [hx.bool_inv]; exact ⟨_, _, by simp [Op.unary], .mkBool _, hk⟩
  · rw [hx.int_inv]
    have h := hk.1.wrap
    exact ⟨_, _, by simp [Op.unary, Op.intArith, h], .mkInt _ _, hk.2⟩
  · exact hk.elim

/-! conversions between integers, and between names of strings -/
def convK (Γ : Gam) (src dst : TypeId) (x : AV) (K : AV → Prop) : Prop :=
  match x with
  | .p (.int _ a) => (Γ src).isSome = true ∧ (match Γ dst with | some te => (match te.td with | .int k' => InR k' a ∧ K (.p (.int k' a)) | _ => False) | none => False)
  | .p (.str s) => tdAt Γ src .str ∧ tdAt Γ dst .str ∧ K (.p (.str s))
  | _ => False
theorem conv_ok {Γ : Gam} (hΓ : GamOK P Γ) {src dst : TypeId} {x : AV} {v : Value} {K : AV → Prop} (hx : VR n μ I w x v) (hk : convK Γ src dst x K) :
    ∃ a cv, (convert src dst v).run P w = .ok cv w ∧ VR n μ I w a cv ∧ K a := by
  unfold convK at hk
  split at hk
  · obtain ⟨hs, hk⟩ := hk
    obtain ⟨te, hs⟩ := Option.isSome_iff_exists.1 hs
    obtain ⟨d, hu, _, _⟩ := (hΓ _ _ hs).desc
    split at hk
    · rename_i te' hd
      obtain ⟨d', hu', hd', _⟩ := (hΓ _ _ hd).desc
      split at hk
      · rename_i k' hk'
        rw [hk'] at hd'
        simp only [descOK] at hd'; subst hd'
        rw [hx.int_inv]
        exact ⟨_, _, by simp [convert, run_underlying hu, run_underlying hu', Conv.intToInt, hk.1.wrap], .mkInt _ _, hk.2⟩
      · exact hk.elim
    · exact hk.elim
  · obtain ⟨hs, hd, hk⟩ := hk
    obtain ⟨d, hu, hs⟩ := hs.und hΓ
    obtain ⟨d', hu', hd⟩ := hd.und hΓ
    simp only [descOK] at hs hd; subst hs hd
    obtain ⟨b, rfl, rfl⟩ := hx.str_inv
    exact ⟨_, _, by simp [convert, run_underlying hu, run_underlying hu'], .mkStr rfl, hk⟩
  · exact hk.elim
end
end Go.AM
