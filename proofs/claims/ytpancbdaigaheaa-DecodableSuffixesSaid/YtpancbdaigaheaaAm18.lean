/-
  AM 18: the walk as simp takes it: what comes later is not looked at before what comes first is known.
-/
import Derived.Test.YtpancbdaigaheaaAm17
namespace Go.AM
open Go.RowKit

def gK (v : AV) (want : Bool) (run skip : Prop) : Prop := match v with
  | .p (.bool b) => (b = want → run) ∧ (b = (!want) → skip)
  | .tup _ => skip
  | _ => False
def slotG (d : Option Nat) (tm : List AV) : AV := match d with
  | some d => tm.getD d .junk
  | none => .junk

theorem guardK_eq (ops : List Oper) (j : Nat) (want : Bool) (tm : List AV) (run skip : Prop) : guardK ops (some (j, want)) tm run skip = gK (slotG ((ops.map (·.dst)).getD j none) tm) want run skip := by
  have : (ops.map (·.dst)).getD j none = slotOf ops j := by
    simp only [slotOf, List.getD_eq_getElem?_getD, List.getElem?_map]; cases ops[j]? <;> rfl
  rw [this]
  unfold guardK
  simp only
  generalize slotOf ops j = q
  cases q with
  | none => rfl
  | some d =>
    simp only [slotG, gK]
    generalize tm.getD d .junk = v
    cases v with
    | p v => cases v <;> rfl
    | _ => rfl

def stepsL (E : Env) (sl : List (Option Nat)) : List Oper → St → (St → Prop) → Prop
  | [], st, K => K st
  | o :: rest, st, K => match o.guard with
    | none => opK E o st fun st' => stepsL E sl rest st' K
    | some (j, w) => gK (slotG (sl.getD j none) st.tmps) w (opK E o st fun st' => stepsL E sl rest st' K) (stepsL E sl rest ⟨putD st.tmps o.dst (.tup []), st.h⟩ K)

theorem stepsL_eq (E : Env) (ops : List Oper) : ∀ (l : List Oper) (st : St) (K : St → Prop), stepsK E ops l st K = stepsL E (ops.map (·.dst)) l st K
  | [], _, _ => rfl
  | o :: rest, st, K => by
    unfold stepsK stepsL
    have ih := stepsL_eq E ops rest
    cases hg : o.guard with
    | none => simp only [guardK, ih]
    | some p => obtain ⟨j, w⟩ := p; rw [guardK_eq]; simp only [ih]

def lexL (E : Env) (sl : List (Option Nat)) (h : List AObj) : List Oper → List AV → (List AV → Prop) → Prop
  | [], tm, K => K tm
  | o :: l, tm, K => match o.guard with
    | none => pureK E o.op h (ev tm) fun v => lexL E sl h l (putD tm o.dst v) K
    | some (j, w) => gK (slotG (sl.getD j none) tm) w (pureK E o.op h (ev tm) fun v => lexL E sl h l (putD tm o.dst v) K) (lexL E sl h l (putD tm o.dst (.tup [])) K)

theorem lexL_eq (E : Env) (ops : List Oper) (h : List AObj) : ∀ (l : List Oper) (tm : List AV) (K : List AV → Prop), lexK E ops h l tm K = lexL E (ops.map (·.dst)) h l tm K
  | [], _, _ => rfl
  | o :: rest, tm, K => by
    unfold lexK lexL
    have ih := lexL_eq E ops h rest
    cases hg : o.guard with
    | none => simp only [guardK, ih]
    | some p => obtain ⟨j, w⟩ := p; rw [guardK_eq]; simp only [ih]

theorem AWp.drawL {E : Env} {r : Option Nat} {Q : Exit → St → Prop} (hΓ : GamOK E.P E.Γ) (hmix : E.P.follows .mixedOrders = true) {id : Nat} {ops : List Oper} {tm : List AV} {h : List AObj} (m : Nat) (hok : drawOK m ops = true)
    (hk : lexL E (ops.map (·.dst)) h (ops.take m) tm (fun tm' => stepsL E (ops.map (·.dst)) (ops.drop m) ⟨tm', h⟩ (Q .normal))) : AWp E r (.region id ops.toArray true) Q ⟨tm, h⟩ := by
  refine AWp.draw hΓ hmix m hok ?_
  rw [lexL_eq]
  simp only [stepsL_eq]
  exact hk

section
variable {E : Env} {r : Option Nat} {Q : Exit → St → Prop} {tm tm' : List AV} {h : List AObj} {K : St → Prop} {KA : AV → Prop} {KT : List AV → Prop}
@[go_sem] theorem awp_regionL (id : Nat) (ops : List Oper) : awp E r (.region id ops.toArray false) Q ⟨tm, h⟩ = stepsL E (ops.map (·.dst)) ops ⟨tm, h⟩ (Q .normal) := by
  rw [← stepsL_eq]; rfl
@[go_sem] theorem stepsL_nil (sl : List (Option Nat)) : stepsL E sl [] ⟨tm, h⟩ K = K ⟨tm, h⟩ := rfl
@[go_sem] theorem stepsL_plain (sl : List (Option Nat)) (rest : List Oper) (dst : Option Tmp) (op : Op) (ty : TypeId) (pos : String) (after : Array Edge) :
    stepsL E sl (⟨dst, op, ty, pos, after, none⟩ :: rest) ⟨tm, h⟩ K = opK E ⟨dst, op, ty, pos, after, none⟩ ⟨tm, h⟩ fun st' => stepsL E sl rest st' K := rfl
@[go_sem] theorem stepsL_guard (sl : List (Option Nat)) (rest : List Oper) (dst : Option Tmp) (op : Op) (ty : TypeId) (pos : String) (after : Array Edge) (j : Nat) (want : Bool) :
    stepsL E sl (⟨dst, op, ty, pos, after, some (j, want)⟩ :: rest) ⟨tm, h⟩ K = gK (slotG (sl.getD j none) tm) want (opK E ⟨dst, op, ty, pos, after, some (j, want)⟩ ⟨tm, h⟩ fun st' => stepsL E sl rest st' K) (stepsL E sl rest ⟨putD tm dst (.tup []), h⟩ K) := rfl
@[go_sem] theorem lexL_nil (sl : List (Option Nat)) : lexL E sl h [] tm KT = KT tm := rfl
@[go_sem] theorem lexL_plain (sl : List (Option Nat)) (l : List Oper) (dst : Option Tmp) (op : Op) (ty : TypeId) (pos : String) (after : Array Edge) :
    lexL E sl h (⟨dst, op, ty, pos, after, none⟩ :: l) tm KT = pureK E op h (ev tm) fun v => lexL E sl h l (putD tm dst v) KT := rfl
@[go_sem] theorem lexL_guard (sl : List (Option Nat)) (l : List Oper) (dst : Option Tmp) (op : Op) (ty : TypeId) (pos : String) (after : Array Edge) (j : Nat) (want : Bool) :
    lexL E sl h (⟨dst, op, ty, pos, after, some (j, want)⟩ :: l) tm KT = gK (slotG (sl.getD j none) tm) want (pureK E op h (ev tm) fun v => lexL E sl h l (putD tm dst v) KT) (lexL E sl h l (putD tm dst (.tup [])) KT) := rfl
@[go_sem] theorem slotG_some (d : Nat) : slotG (some d) tm = tm.getD d .junk := rfl
@[go_sem] theorem gK_tup (l : List AV) (want : Bool) (x y : Prop) : gK (.tup l) want x y = y := rfl
@[go_sem] theorem gK_true (b : Bool) (x y : Prop) : gK (.p (.bool b)) true x y = boolK (.p (.bool b)) x y := rfl
@[go_sem] theorem gK_false (b : Bool) (x y : Prop) : gK (.p (.bool b)) false x y = boolK (.p (.bool b)) y x := by
  simp only [gK, boolK, Bool.not_false]; exact propext And.comm
theorem boolK_prop (p : Prop) [Decidable p] (x y : Prop) : boolK (.p (.bool (decide p))) x y = ((p → x) ∧ (¬ p → y)) := by
  simp only [boolK, decide_eq_true_eq, decide_eq_false_iff_not]
@[go_sem] theorem boolK_true (x y : Prop) : boolK (.p (.bool true)) x y = x := by simp [boolK]
@[go_sem] theorem boolK_false (x y : Prop) : boolK (.p (.bool false)) x y = y := by simp [boolK]

/-! What is not looked at. (A rule that changes nothing would not be taken: 'hd' is there to be taken away.) -/
def hd {α : Sort _} (a : α) : α := a
@[go_sem] theorem hd_eq {α : Sort _} (a : α) : hd a = a := congrFun (funext fun _ => rfl : @hd α = fun a => a) a
@[congr] theorem awp_congr {c : Code} {st st' : St} (h : hd st = st') : awp E r c Q st = awp E r c Q st' := by rw [hd_eq] at h; rw [h]
@[congr] theorem AWp_congr {c : Code} {st st' : St} (h : hd st = st') : AWp E r c Q st = AWp E r c Q st' := by rw [hd_eq] at h; rw [h]
@[congr] theorem stepsL_congr {sl sl' : List (Option Nat)} {l : List Oper} {st st' : St} (h1 : hd sl = sl') (h : st = st') : stepsL E sl l st K = stepsL E sl' l st' K := by rw [hd_eq] at h1; rw [h1, h]
@[congr] theorem lexL_congr {sl sl' : List (Option Nat)} {l : List Oper} (h1 : hd sl = sl') (ht : tm = tm') : lexL E sl h l tm KT = lexL E sl' h l tm' KT := by rw [hd_eq] at h1; rw [h1, ht]
@[congr] theorem opK_congr {o : Oper} {st st' : St} (h : hd st = st') : opK E o st K = opK E o st' K := by rw [hd_eq] at h; rw [h]
@[congr] theorem pureK_congr' {op : Op} (ht : hd tm = tm') : pureK E op h (ev tm) KA = pureK E op h (ev tm') KA := by rw [hd_eq] at ht; rw [ht]
@[congr] theorem gK_congr {v v' : AV} {w : Bool} {x y : Prop} (h : hd v = v') : gK v w x y = gK v' w x y := by rw [hd_eq] at h; rw [h]
@[congr] theorem boolK_congr {v v' : AV} {x y : Prop} (h : hd v = v') : boolK v x y = boolK v' x y := by rw [hd_eq] at h; rw [h]
variable {Γ : Gam} {t : TypeId} {x x' y y' z z' : AV}
@[congr] theorem nilK_congr (h1 : hd x = x') : nilK x KA = nilK x' KA := by rw [hd_eq] at h1; rw [h1]
@[congr] theorem minK_congr (h1 : hd x = x') (h2 : y = y') : minK x y KA = minK x' y' KA := by rw [hd_eq] at h1; rw [h1, h2]
@[congr] theorem nilSlK_congr {b : Bool} (h1 : hd x = x') : nilSlK Γ t b x h KA = nilSlK Γ t b x' h KA := by rw [hd_eq] at h1; rw [h1]
@[congr] theorem bldK_congr {ps ps' : List (Nat × AV)} (h1 : hd ps = ps') : bldK Γ t ps KA = bldK Γ t ps' KA := by rw [hd_eq] at h1; rw [h1]
@[congr] theorem lookK_congr {ok : Bool} (h1 : hd x = x') (h2 : y = y') : lookK Γ h t x y ok KA = lookK Γ h t x' y' ok KA := by rw [hd_eq] at h1; rw [h1, h2]
@[congr] theorem updK_congr (h1 : hd x = x') (h2 : y = y') (h3 : z = z') : updK Γ tm h t x y z K = updK Γ tm h t x' y' z' K := by rw [hd_eq] at h1; rw [h1, h2, h3]
@[congr] theorem rngK_congr {d : Option Nat} (h1 : hd x = x') : rngK Γ tm h d t x K = rngK Γ tm h d t x' K := by rw [hd_eq] at h1; rw [h1]
@[congr] theorem nxtK_congr {d : Option Nat} (h1 : hd x = x') : nxtK tm h d x K = nxtK tm h d x' K := by rw [hd_eq] at h1; rw [h1]
@[congr] theorem mkSK_congr {d : Option Nat} (h1 : hd x = x') (h2 : y = y') : mkSK Γ tm h d t x y K = mkSK Γ tm h d t x' y' K := by rw [hd_eq] at h1; rw [h1, h2]
@[congr] theorem binK_congr {op : BinOp} (h1 : hd x = x') (h2 : y = y') : binK Γ op t x y KA = binK Γ op t x' y' KA := by rw [hd_eq] at h1; rw [h1, h2]
@[congr] theorem pickK_congr (h1 : hd x = x') (h2 : y = y') (h3 : z = z') : pickK x y z KA = pickK x' y' z' KA := by rw [hd_eq] at h1; rw [h1, h2, h3]
@[congr] theorem unK_congr {op : UnOp} (h1 : hd x = x') : unK op x KA = unK op x' KA := by rw [hd_eq] at h1; rw [h1]
@[congr] theorem extK_congr {i : Nat} (h1 : hd x = x') : extK x i KA = extK x' i KA := by rw [hd_eq] at h1; rw [h1]
@[congr] theorem convK_congr {s : TypeId} (h1 : hd x = x') : convK Γ s t x KA = convK Γ s t x' KA := by rw [hd_eq] at h1; rw [h1]
@[congr] theorem idxK_congr (h1 : hd x = x') (h2 : y = y') : idxK Γ t x y KA = idxK Γ t x' y' KA := by rw [hd_eq] at h1; rw [h1, h2]
@[congr] theorem iaK_congr (h1 : hd x = x') (h2 : y = y') : iaK Γ h t x y KA = iaK Γ h t x' y' KA := by rw [hd_eq] at h1; rw [h1, h2]
@[congr] theorem faK_congr {f : Nat} (h1 : hd x = x') : faK Γ t x f KA = faK Γ t x' f KA := by rw [hd_eq] at h1; rw [h1]
@[congr] theorem fieldK_congr {f : Nat} (h1 : hd x = x') : fieldK Γ t x f KA = fieldK Γ t x' f KA := by rw [hd_eq] at h1; rw [h1]
@[congr] theorem loadK_congr (h1 : hd x = x') : loadK Γ h t x KA = loadK Γ h t x' KA := by rw [hd_eq] at h1; rw [h1]
@[congr] theorem lenK_congr (h1 : hd x = x') : lenK Γ t x h KA = lenK Γ t x' h KA := by rw [hd_eq] at h1; rw [h1]
@[congr] theorem sliceK_congr {lo lo' hi hi' mx mx' : Option AV} (h1 : hd x = x') (h2 : lo = lo') (h3 : hi = hi') (h4 : mx = mx') : sliceK Γ t x lo hi mx KA = sliceK Γ t x' lo' hi' mx' KA := by rw [hd_eq] at h1; rw [h1, h2, h3, h4]
@[congr] theorem bsPK_congr {len : Nat} {ps ps' : List (Nat × AV)} (h1 : hd ps = ps') : bsPK Γ t len ps KA = bsPK Γ t len ps' KA := by rw [hd_eq] at h1; rw [h1]
@[congr] theorem bsK_congr {d : Option Nat} {len : Nat} {ps ps' : List (Nat × AV)} (h1 : hd ps = ps') : bsK Γ tm h d t len ps K = bsK Γ tm h d t len ps' K := by rw [hd_eq] at h1; rw [h1]
@[congr] theorem stZ_congr {a b : Operand} (h1 : hd x = x') (h2 : hd y = y') : stZ Γ tm h t a b x y K = stZ Γ tm h t a b x' y' K := by rw [hd_eq] at h1 h2; rw [h1, h2]
@[congr] theorem storeY_congr {a b : Operand} {st st' : St} (h1 : hd st = st') : storeY Γ st t a b K = storeY Γ st' t a b K := by rw [hd_eq] at h1; rw [h1]
@[congr] theorem bsY_congr {d : Option Nat} {len : Nat} {ps : List (Nat × Operand)} {st st' : St} (h1 : hd st = st') : bsY Γ st d t len ps K = bsY Γ st' d t len ps K := by rw [hd_eq] at h1; rw [h1]
@[congr] theorem updY_congr {a b c : Operand} {st st' : St} (h1 : hd st = st') : updY Γ st t a b c K = updY Γ st' t a b c K := by rw [hd_eq] at h1; rw [h1]
@[congr] theorem slY_congr {d : Option Nat} {a : Operand} {lo hi mx : Option Operand} (h1 : hd x = x') : slY E tm h d t a lo hi mx x K = slY E tm h d t a lo hi mx x' K := by rw [hd_eq] at h1; rw [h1]
@[congr] theorem entK_congr (h1 : hd x = x') : entK h x KA = entK h x' KA := by rw [hd_eq] at h1; rw [h1]
@[congr] theorem boxK_congr {d : Option Nat} (h1 : hd x = x') : boxK tm h d x K = boxK tm h d x' K := by rw [hd_eq] at h1; rw [h1]
@[congr] theorem storeK_congr (h1 : hd x = x') (h2 : y = y') : storeK Γ tm h t x y K = storeK Γ tm h t x' y' K := by rw [hd_eq] at h1; rw [h1, h2]
@[congr] theorem appK_congr {n0 : Nat} {ks : List Nat} {d : Option Nat} (h1 : hd x = x') (h2 : y = y') : appK Γ n0 ks tm h d t x y K = appK Γ n0 ks tm h d t x' y' K := by rw [hd_eq] at h1; rw [h1, h2]
@[congr] theorem callK_congr {st : St} {d : Option Nat} {l l' : List AV} (h1 : hd x = x') (h2 : l = l') : callK E st d x l K = callK E st d x' l' K := by rw [hd_eq] at h1; rw [h1, h2]
@[congr] theorem callVPK_congr {l l' : List AV} (h1 : hd x = x') (h2 : l = l') : callVPK E h x l KA = callVPK E h x' l' KA := by rw [hd_eq] at h1; rw [h1, h2]
@[congr] theorem tyAt_congr {Γ' : Gam} {u : TypeId} {f : TE → Prop} (h1 : hd t = u) (h2 : Γ = Γ') : tyAt Γ t f = tyAt Γ' u f := by rw [hd_eq] at h1; rw [h1, h2]
@[congr] theorem fldOff_congr {u : TypeId} {f : Nat} {F : Nat → TE → Prop} (h1 : hd t = u) : fldOff Γ t f F = fldOff Γ u f F := by rw [hd_eq] at h1; rw [h1]
theorem tyAt_of {te : TE} (hte : Γ t = some te) (f : TE → Prop) : tyAt Γ t f = f te := by simp only [tyAt, hte]
end
attribute [go_sem] true_imp_iff false_imp_iff
end Go.AM
