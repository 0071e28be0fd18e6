/-
  AM 2: the operations that write nothing: what each gives, and that the model gives the same.
-/
import Derived.Test.YtpancbdaigaheaaAm1
namespace Go.AM
open Go.RowKit

/-- What the layer wants to know of a type. -/
inductive TD where
  | bool | int (k : IntKind) | str | slice (e : TypeId) | map (k e : TypeId) | struct (fs : List (Nat × TypeId)) | other
  deriving DecidableEq, Inhabited

structure TE where
  td : TD := .other
  cells : Nat := 0
  bytes : Nat := 0
  zero : Option AV := none
  isAgg : Bool := false
  deriving Inhabited

def descOK : TD → TypeDesc → Prop
  | .bool, d => d = .bool
  | .int k, d => d = .int k
  | .str, d => d = .string
  | .slice e, d => d = .slice e
  | .map k e, d => d = .map k e
  | .struct fs, d => ∃ a : Array Field, d = .struct a ∧ a.toList.map (fun f => (f.offset, f.type)) = fs
  | .other, _ => True

def Plain (z : AV) (zv : Value) : Prop := ∀ n μ I w, VR n μ I w z zv

def aggDesc : TypeDesc → Bool
  | .struct _ => true
  | .array _ _ => true
  | _ => false

structure TyOK (P : Program) (t : TypeId) (te : TE) : Prop where
  desc : ∃ d, P.underlying t = some d ∧ descOK te.td d ∧ te.isAgg = aggDesc d
  info : ∃ i, P.info? t = some i ∧ i.size = te.cells ∧ i.bytes = te.bytes ∧ ∀ z, te.zero = some z → ∃ zv, i.zero = some zv ∧ Plain z zv ∧ zv.cells.size = te.cells

abbrev Gam := TypeId → Option TE
def GamOK (P : Program) (Γ : Gam) : Prop := ∀ t te, Γ t = some te → TyOK P t te

/-! ### Inversions -/
section
variable {n : Nat} {μ : Nat → Value} {I : Nat → Prop} {w : World} {v : Value}
theorem VR.bool_inv {b : Bool} (h : VR n μ I w (.p (.bool b)) v) : v = .bool b := by cases h with | p _ _ h => cases h; rfl
theorem VR.int_inv {k : IntKind} {x : Int} (h : VR n μ I w (.p (.int k x)) v) : v = .int k x := by cases h with | p _ _ h => cases h; rfl
theorem PR.str_inv {s : List UInt8} (h : PR I w (.str s) v) : ∃ b : ByteArray, v = .string b ∧ b.data.toList = s := by cases h with | str b => exact ⟨b, rfl, rfl⟩
theorem VR.str_inv {s : List UInt8} (h : VR n μ I w (.p (.str s)) v) : ∃ b : ByteArray, v = .string b ∧ b.data.toList = s := by cases h with | p _ _ h => exact h.str_inv
theorem VR.own_inv {b k : Nat} (h : VR n μ I w (.own b k) v) : ∃ a c, v = .slice a k c ∧ b < n ∧ μ b = .slice a k c := by cases h with | own _ _ a c hb h => exact ⟨a, c, rfl, hb, h⟩
theorem VR.ptr_inv {b off : Nat} (h : VR n μ I w (.ptr b off) v) : ∃ g, v = .pointer (some ⟨g, off, none⟩) ∧ b < n ∧ μ b = .pointer (some ⟨g, 0, none⟩) := by cases h with | ptr _ _ g hb h => exact ⟨g, rfl, hb, h⟩
theorem VR.eptr_inv {b s i f : Nat} (h : VR n μ I w (.eptr b s i f) v) : ∃ g k c, v = .pointer (some ⟨g, i * s + f, none⟩) ∧ b < n ∧ μ b = .slice (some ⟨g, 0, none⟩) k c := by cases h with | eptr _ _ _ _ g k c hb h => exact ⟨g, k, c, rfl, hb, h⟩
theorem VR.map_inv {b : Nat} (h : VR n μ I w (.map b) v) : ∃ r, v = .map (some r) ∧ b < n ∧ μ b = .map (some r) := by cases h with | map _ r hb h => exact ⟨r, rfl, hb, h⟩
theorem VR.ipt_inv {l : List PV} (h : VR n μ I w (.ipt l) v) : ∃ g off cur E fz vs, v = .pointer (some ⟨g, off, none⟩) ∧ I g ∧ w.heap[g]? = some (.cells cur E fz) ∧
    (∀ j, j < l.length → cur[off + j]? = some ((vs : Nat → Value) j)) ∧ (∀ j, j < l.length → PR I w (l.getD j default) (vs j)) := by
  cases h with | ipt _ g off cur E fz vs hI hw hv hr => exact ⟨g, off, cur, E, fz, vs, rfl, hI, hw, hv, hr⟩
theorem VR.tup_inv {l : List AV} (h : VR n μ I w (.tup l) v) : ∃ cs : List Value, v = .tuple cs.toArray ∧ l.length = cs.length ∧ ∀ i, i < l.length → VR n μ I w (l.getD i .junk) (cs.getD i undef) := by
  cases h with | tup _ cs hl hr => exact ⟨cs, rfl, hl, hr⟩
theorem VR.agg_inv {l : List AV} (h : VR n μ I w (.agg l) v) : ∃ cs : List Value, v = .agg cs.toArray ∧ l.length = cs.length ∧ ∀ i, i < l.length → VR n μ I w (l.getD i .junk) (cs.getD i undef) := by
  cases h with | agg _ cs hl hr => exact ⟨cs, rfl, hl, hr⟩
theorem VR.fn_inv {f : FuncId} {l : List AV} (h : VR n μ I w (.fn f l) v) : ∃ cs : List Value, v = .func (.func f) #[] cs.toArray ∧ l.length = cs.length ∧ ∀ i, i < l.length → VR n μ I w (l.getD i .junk) (cs.getD i undef) := by
  cases h with | fn _ _ cs hl hr => exact ⟨cs, rfl, hl, hr⟩
theorem VR.mkInt (k : IntKind) (x : Int) : VR n μ I w (.p (.int k x)) (.int k x) := .p _ _ (.int k x)
theorem VR.mkBool (b : Bool) : VR n μ I w (.p (.bool b)) (.bool b) := .p _ _ (.bool b)
theorem PR.mkStr {b : ByteArray} {s : List UInt8} (h : b.data.toList = s) : PR I w (.str s) (.string b) := by subst h; exact .str b
theorem VR.mkStr {b : ByteArray} {s : List UInt8} (h : b.data.toList = s) : VR n μ I w (.p (.str s)) (.string b) := .p _ _ (.mkStr h)
end

/-! ### Integers in range -/
def InR : IntKind → Int → Prop
  | .i8, x => -128 ≤ x ∧ x ≤ 127
  | .i16, x => -32768 ≤ x ∧ x ≤ 32767
  | .i32, x => -2147483648 ≤ x ∧ x ≤ 2147483647
  | .i64, x => -9223372036854775808 ≤ x ∧ x ≤ 9223372036854775807
  | .u8, x => 0 ≤ x ∧ x ≤ 255
  | .u16, x => 0 ≤ x ∧ x ≤ 65535
  | .u32, x => 0 ≤ x ∧ x ≤ 4294967295
  | .u64, x => 0 ≤ x ∧ x ≤ 18446744073709551615

theorem InR.wrap {k : IntKind} {x : Int} (h : InR k x) : k.wrap x = x := by
  cases k with
  | i8 => exact IntWalk.i8_in _ h
  | i16 => exact IntWalk.i16_in _ h
  | i32 => exact IntWalk.i32_in _ h
  | i64 => exact IntWalk.i64_in _ h
  | u8 => exact IntWalk.u8_in _ h
  | u16 => exact IntWalk.u16_in _ h
  | u32 => exact IntWalk.u32_in _ h
  | u64 => exact IntWalk.u64_in _ h

/-! ### The operations, each as what is asked and what it gives -/
def intK (op : BinOp) (k : IntKind) (a b : Int) (K : AV → Prop) : Prop :=
  match op with
  | .add => InR k (a + b) ∧ K (.p (.int k (a + b)))
  | .sub => InR k (a - b) ∧ K (.p (.int k (a - b)))
  | .mul => InR k (a * b) ∧ K (.p (.int k (a * b)))
  | .quo => (0 ≤ a ∧ 0 < b ∧ InR k a) ∧ K (.p (.int k (a / b)))
  | .rem => (0 ≤ a ∧ 0 < b) ∧ K (.p (.int k (a % b)))
  | .and | .or | .xor | .andNot => False
  | .shl => (0 ≤ b ∧ b < k.bits ∧ InR k (a * 2 ^ b.toNat)) ∧ K (.p (.int k (a * 2 ^ b.toNat)))
  | .shr => (0 ≤ b ∧ b < k.bits ∧ 0 ≤ a) ∧ K (.p (.int k (a / 2 ^ b.toNat)))
  | .eql => K (.p (.bool (decide (a = b))))
  | .neq => K (.p (.bool (!decide (a = b))))
  | .lss => K (.p (.bool (decide (a < b))))
  | .leq => K (.p (.bool (decide (a ≤ b))))
  | .gtr => K (.p (.bool (decide (b < a))))
  | .geq => K (.p (.bool (decide (b ≤ a))))

def strK (op : BinOp) (a b : List UInt8) (K : AV → Prop) : Prop :=
  match op with
  | .add => a.length + b.length ≤ 9223372036854775807 ∧ K (.p (.str (a ++ b)))
  | .eql => K (.p (.bool (decide (a = b))))
  | .neq => K (.p (.bool (!decide (a = b))))
  | .lss => K (.p (.bool (Op.bytesLess a b)))
  | .leq => K (.p (.bool (Op.bytesLess a b || decide (a = b))))
  | .gtr => K (.p (.bool (!(Op.bytesLess a b || decide (a = b)))))
  | .geq => K (.p (.bool (!Op.bytesLess a b)))
  | _ => False

def tdAt (Γ : Gam) (t : TypeId) (d : TD) : Prop := match Γ t with | some te => te.td = d | none => False

def binK (Γ : Gam) (op : BinOp) (t : TypeId) (x y : AV) (K : AV → Prop) : Prop :=
  match x, y with
  | .p (.int k a), .p (.int k' b) => k = k' ∧ intK op k a b K
  | .p (.str a), .p (.str b) => strK op a b K
  | .p (.bool a), .p (.bool b) => tdAt Γ t .bool ∧ (match op with
    | .eql => K (.p (.bool (a == b)))
    | .neq => K (.p (.bool (a != b)))
    | _ => False)
  | _, _ => False

theorem beq_dec (a b : Int) : (a == b) = decide (a = b) := by
  by_cases h : a = b <;> simp [h]
theorem lbeq (a b : List UInt8) : (a == b) = decide (a = b) := by
  rw [Bool.eq_iff_iff]; simp

section
variable {P : Program} {n : Nat} {μ : Nat → Value} {I : Nat → Prop} {w : World}

theorem intK_ok {op : BinOp} {k : IntKind} {a b : Int} {K : AV → Prop} (t : TypeId) (h : intK op k a b K) :
    ∃ v cv, (binOp op t (.int k a) (.int k b)).run P w = .ok cv w ∧ VR n μ I w v cv ∧ K v := by
  cases op with
  | add => exact ⟨_, _, by simp [binOp, Op.intArith, h.1.wrap], .mkInt _ _, h.2⟩
  | sub => exact ⟨_, _, by simp [binOp, Op.intArith, h.1.wrap], .mkInt _ _, h.2⟩
  | mul => exact ⟨_, _, by simp [binOp, Op.intArith, h.1.wrap], .mkInt _ _, h.2⟩
  | quo =>
    obtain ⟨⟨h0, h1, hr⟩, hK⟩ := h
    have hq : a.tdiv b = a / b := Int.tdiv_eq_ediv_of_nonneg h0
    have hle : InR k (a / b) := by
      have h2 : 0 ≤ a / b := Int.ediv_nonneg h0 (by omega)
      have h3 : a / b ≤ a := Int.ediv_le_self b h0
      cases k <;> simp only [InR] at hr ⊢ <;> omega
    exact ⟨_, _, by simp [binOp, Op.intDiv, show ¬ b = 0 by omega, hq, hle.wrap], .mkInt _ _, hK⟩
  | rem =>
    obtain ⟨⟨h0, h1⟩, hK⟩ := h
    have hq : a.tmod b = a % b := Int.tmod_eq_emod_of_nonneg h0
    exact ⟨_, _, by simp [binOp, Op.intDiv, show ¬ b = 0 by omega, hq], .mkInt _ _, hK⟩
  | and => exact h.elim
  | or => exact h.elim
  | xor => exact h.elim
  | andNot => exact h.elim
  | shl =>
    obtain ⟨⟨h0, h1, h2⟩, hK⟩ := h
    have hn : min b.toNat k.bits = b.toNat := by omega
    exact ⟨_, _, by simp [binOp, Op.shift, show ¬ b < 0 by omega, hn, h2.wrap], .mkInt _ _, hK⟩
  | shr =>
    obtain ⟨⟨h0, h1, h2⟩, hK⟩ := h
    have hn : min b.toNat k.bits = b.toNat := by omega
    have hd : a.fdiv (2 ^ b.toNat) = a / (2 ^ b.toNat) := Int.fdiv_eq_ediv_of_nonneg _ (by exact Int.le_of_lt (Int.pow_pos (by omega)))
    exact ⟨_, _, by simp [binOp, Op.shift, show ¬ b < 0 by omega, hn, hd], .mkInt _ _, hK⟩
  | eql => exact ⟨_, .bool (decide (a = b)), by rw [binOp_eql, beq_dec]; rfl, .mkBool _, h⟩
  | neq => exact ⟨_, .bool (!decide (a = b)), by rw [binOp_neq, bne, beq_dec]; rfl, .mkBool _, h⟩
  | lss => exact ⟨_, .bool (decide (a < b)), by rw [binOp_lss]; rfl, .mkBool _, h⟩
  | leq => exact ⟨_, .bool (decide (a ≤ b)), by rw [binOp_leq]; rfl, .mkBool _, h⟩
  | gtr => exact ⟨_, .bool (decide (b < a)), by rw [binOp_gtr]; rfl, .mkBool _, h⟩
  | geq => exact ⟨_, .bool (decide (b ≤ a)), by rw [binOp_geq]; rfl, .mkBool _, h⟩

theorem strK_ok {op : BinOp} {a b : ByteArray} {K : AV → Prop} (t : TypeId) (h : strK op a.data.toList b.data.toList K) :
    ∃ v cv, (binOp op t (.string a) (.string b)).run P w = .ok cv w ∧ VR n μ I w v cv ∧ K v := by
  have ha := ByteArray.toList_eq a
  have hb := ByteArray.toList_eq b
  have he : ∀ o, binOp o t (.string a) (.string b) = Op.stringOp o a b := fun o => by cases o <;> rfl
  rw [he]
  cases op with
  | add =>
    have hs : ¬ (((a.size + b.size : Nat) : Int) > IntKind.i64.max) := by
      have h1 : a.size = a.data.toList.length := Array.length_toList.symm
      have h2 : b.size = b.data.toList.length := Array.length_toList.symm
      rw [IntKind.max_i64]
      have := h.1; omega
    exact ⟨_, .string (a ++ b), by simp only [Op.stringOp]; rw [if_neg hs]; rfl, .mkStr (by simp), h.2⟩
  | eql => exact ⟨_, .bool (decide (a.data.toList = b.data.toList)), by simp only [Op.stringOp, ha, hb, lbeq]; rfl, .mkBool _, h⟩
  | neq => exact ⟨_, .bool (!decide (a.data.toList = b.data.toList)), by simp only [Op.stringOp, ha, hb, lbeq]; rfl, .mkBool _, h⟩
  | lss => exact ⟨_, .bool (Op.bytesLess a.data.toList b.data.toList), by simp only [Op.stringOp, ha, hb]; rfl, .mkBool _, h⟩
  | leq => exact ⟨_, .bool (Op.bytesLess a.data.toList b.data.toList || decide (a.data.toList = b.data.toList)), by simp only [Op.stringOp, ha, hb, lbeq]; rfl, .mkBool _, h⟩
  | gtr => exact ⟨_, .bool (!(Op.bytesLess a.data.toList b.data.toList || decide (a.data.toList = b.data.toList))), by simp only [Op.stringOp, ha, hb, lbeq]; rfl, .mkBool _, h⟩
  | geq => exact ⟨_, .bool (!Op.bytesLess a.data.toList b.data.toList), by simp only [Op.stringOp, ha, hb]; rfl, .mkBool _, h⟩
  | _ => exact h.elim

theorem eqGuard_pv {op : BinOp} {t : TypeId} {ox oy : Operand} {a b : Value} (h : (∀ cs, a ≠ .agg cs) ∧ a ≠ .nilIface) : eqGuard op t ox oy a b = pure () := by
  cases a <;> first | exact absurd rfl (h.1 _) | exact absurd rfl h.2 | (cases op <;> rfl)

theorem tdAt.und {Γ : Gam} {t : TypeId} {d : TD} (hΓ : GamOK P Γ) (h : tdAt Γ t d) : ∃ td, P.underlying t = some td ∧ descOK d td := by
  unfold tdAt at h
  split at h
  · rename_i te hte
    subst h
    obtain ⟨d, h1, h2, _⟩ := (hΓ t te hte).desc
    exact ⟨d, h1, h2⟩
  · exact h.elim

theorem binK_ok {Γ : Gam} (hΓ : GamOK P Γ) {op : BinOp} {x y : AV} {a b : Value} {K : AV → Prop} {t : TypeId} (ox oy : Operand) (hx : VR n μ I w x a) (hy : VR n μ I w y b) (h : binK Γ op t x y K) :
    ∃ v cv, (do eqGuard op t ox oy a b; binOp op t a b : Sem Value).run P w = .ok cv w ∧ VR n μ I w v cv ∧ K v := by
  unfold binK at h
  split at h
  · obtain ⟨rfl, h⟩ := h
    rw [hx.int_inv, hy.int_inv, eqGuard_pv ⟨by simp, by simp⟩]
    obtain ⟨v, cv, hr, hv, hK⟩ := intK_ok (P := P) (n := n) (μ := μ) (I := I) (w := w) t h
    exact ⟨v, cv, by simpa using hr, hv, hK⟩
  · obtain ⟨sa, rfl, rfl⟩ := hx.str_inv
    obtain ⟨sb, rfl, rfl⟩ := hy.str_inv
    rw [eqGuard_pv ⟨by simp, by simp⟩]
    obtain ⟨v, cv, hr, hv, hK⟩ := strK_ok (P := P) (n := n) (μ := μ) (I := I) (w := w) t h
    exact ⟨v, cv, by simpa using hr, hv, hK⟩
  · obtain ⟨ht, h⟩ := h
    obtain ⟨td, hu, hd⟩ := ht.und hΓ
    simp only [descOK] at hd
    subst hd
    rw [hx.bool_inv, hy.bool_inv, eqGuard_pv ⟨by simp, by simp⟩]
    cases op with
    | eql => exact ⟨_, _, by simpa using run_eql_bool (P := P) (w := w) t _ _ hu, .mkBool _, h⟩
    | neq => exact ⟨_, _, by rw [Sem.run_bind]; exact run_neq_bool (P := P) (w := w) t _ _ hu, .mkBool _, h⟩
    | _ => exact h.elim
  · exact h.elim
end
end Go.AM
