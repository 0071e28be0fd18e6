/-
  measure.Of.
-/
import Derived.Test.YtaphjgjhpmmkmaaGreatJa03bca4a5a4e

namespace Go.Proofs.YtaphjgjhpmmkmaaGreat
open Go Go.AM
set_option maxRecDepth 100000
set_option maxHeartbeats 4000000
set_option linter.unusedSimpArgs false

theorem cm28 (q : Int) (ws : List (List UInt8)) (hc : codeCheck q ws = 0) : PFn Tryz.prog 9 [codeV q ws] [Kn.ratV (Kn.krS q.toNat (ws.map List.length)) (q.toNat ^ 32), .int .i64 0] := by
  have hv := valid_of hc
  have h2 := hv.q2
  have h16 := hv.q16
  have hq : ((q.toNat : Nat) : Int) = q := by omega
  have hlen := hv.len
  have e45 := t45 q ws
  rw [hc] at e45
  have hz : ((0 : Int) = 0) = True := by simp
  have ek := Kn.v50 q.toNat (ws.map List.length) (by omega) (by omega) (by simp; omega) (fun n hn => by
    obtain ⟨w, hw, rfl⟩ := List.mem_map.1 hn
    obtain ⟨h1, h3, _⟩ := hv.words w hw
    have := List.length_pos_iff.2 h1
    omega)
  rw [hq] at ek
  refine PFn.of_body hΓ Tryz.func9 (by kernel_rfl) rfl (AWp.of_awpD [] hΓ hmix (by kernel_rfl) ?_)
  simp -implicitDefEqProofs only [Tryz.ntmps9, Tryz.results9, Nat.reduceAdd, Nat.reduceSub, codeV, go_sem]
  refine callK_fn e45 (.still rfl) ?_
  simp -implicitDefEqProofs only [go_sem]
  refine AWp.adopt (l := []) 4 3 1 (by rfl) (by simp) ?_
  simp -implicitDefEqProofs only [go_sem]
  refine AWp.loopI (fun i : Nat => ⟨mkF 30 [(1, .ptr 0 0), (2, .ptr 1 0), (4, .own 2 ((ws.map List.length).take i).length), (12, .p (.sl (ws.map .str))), (13, .p (.int .i64 ws.length)), (14, .p (.int .i64 i))], [codeB q ws, .box [.p (.bool false), .p (.str []), .p (.bool false), .p (.str [])], .row 3 1 (((ws.map List.length).take i).map Kn.nV) .lax]⟩)
    (fun i => i ≤ ws.length) (fun i => ws.length - i) 0 (by simp [go_sem, codeB]) (by simp) ?_
  intro i hi
  refine AWp.of_awpD [] hΓ hmix (by kernel_rfl) ?_
  by_cases hlt : i < ws.length
  · have hlt' : (i : Int) < (ws.length : Int) := by omega
    have hgi : (ws.map PV.str).getD i default = .str ws[i] := getD_map_lt _ _ _ _ hlt
    have htk : (ws.map List.length).take (i + 1) = (ws.map List.length).take i ++ [ws[i].length] := by
      rw [List.take_succ_eq_append_getElem (by simpa using hlt), List.getElem_map]
    have hli : ((ws.map List.length).take i).length = i := by simp; omega
    have hs1 : sizeOK [PV.int .i64 (ws[i].length : Int)] 1 := by simp [sizeOK, PV.cells]
    have ho1 : oneOK [PV.int .i64 (ws[i].length : Int)] := by simp [oneOK, PV.cells, PV.isAgg]
    simp -implicitDefEqProofs only [hlt', hgi, codeB, Int.toNat_natCast, go_sem]
    refine ⟨⟨hs1, by omega⟩, ⟨hs1, ho1⟩, ⟨by simp, by rw [hli]; omega, by rw [hli]; omega⟩, by simp only [InR]; omega, i + 1, ⟨⟨by rw [htk]; simp, by simp⟩, .inr ?_⟩, hlt, by omega⟩
    rw [htk]
    simp [Kn.nV]
  · have hlt' : ¬ (i : Int) < (ws.length : Int) := by omega
    have : i = ws.length := by omega
    subst this
    rw [List.take_of_length_le (by simp)]
    simp -implicitDefEqProofs only [Int.lt_irrefl, Nat.lt_irrefl, codeB, go_sem]
    refine callK_fn ek (.owned rfl rfl) ?_
    simp -implicitDefEqProofs only [Kn.ratV, go_sem]

theorem aggR {A B C D : List UInt8} {x y : AV} {K : AV → Prop} (hx : x.pure = some (.agg [.bool false, .str A, .bool false, .str B])) (hy : y.pure = some (.agg [.bool false, .str C, .bool false, .str D]))
    (hK : K (.p (.bool (decide (A = C) && decide (B = D))))) : aggK Γ .eql 33 x y K := by
  have he : ∃ te fs, Γ 33 = some te ∧ te.td = .struct fs ∧ te.eqs = true ∧ eqAgg Γ fs [.bool false, .str A, .bool false, .str B] [.bool false, .str C, .bool false, .str D] =
      some (((false == false) && (decide (A = C) && true)) && (((false == false) && (decide (B = D) && true)) && true)) := ⟨_, _, rfl, rfl, rfl, rfl⟩
  obtain ⟨te, fs, h1, h2, h3, h4⟩ := he
  have e : (((false == false) && (decide (A = C) && true)) && (((false == false) && (decide (B = D) && true)) && true)) = (decide (A = C) && decide (B = D)) := by simp
  rw [e] at h4
  unfold aggK
  rw [hx, hy]
  simp only [tyAt, h1, h2, h3, h4]
  exact ⟨⟨trivial, rfl, rfl⟩, hK⟩
end Go.Proofs.YtaphjgjhpmmkmaaGreat
