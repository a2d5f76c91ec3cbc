/-
  Dice: Apart, Min, Max, Fair.
-/
import Derived.Test.YtijeefncmgjlpaaVA
import Derived.Test.YtijeefncmgjlpaaVB
import Derived.Test.YtijeefncmgjlpaaU9
import Derived.Test.YtijeefncmgjlpaaR6
import Derived.Test.YtijeefncmgjlpaaU1
import Derived.Test.YtijeefncmgjlpaaEb
set_option linter.unusedSimpArgs false
set_option linter.unusedVariables false

set_option maxHeartbeats 4000000
set_option maxRecDepth 100000
namespace Go.Proofs.Try.Dn
open Go.Dn

/-! ### Apart -/
theorem cEq_pos {x : Int} {b : List Int} : cEq x b = 0 ↔ x ∉ b := by
  unfold cEq
  rw [List.countP_eq_zero]
  constructor
  · intro h hx; have := h x hx; simp at this
  · intro h y hy; simp; intro e; exact h (by rw [e]; exact hy)

theorem same_zero {a b : List Int} : same a b = 0 ↔ ∀ x ∈ a, x ∉ b := by
  unfold same
  constructor
  · intro h x hx
    have h1 : cEq x b ∈ a.map fun x => cEq x b := List.mem_map.2 ⟨x, hx, rfl⟩
    have := le_sum h1
    exact cEq_pos.1 (by omega)
  · intro h
    exact sum_zero _ _ fun x hx => cEq_pos.2 (h x hx)

theorem call34 {pg : Pg} (hF : Free pg) {A B : TV} {a b : List Int} (hA : SV A a) (hB : SV B b) (ha : a.length ≤ 100) (hb : b.length ≤ 100) (H : Heap) : callRun pg (den pg) (.pu []) [.fn 34 [] [], A, B] H = some (.tup [.i .i64 (more a b : Int), .i .i64 (less a b : Int), .i .i64 (same a b : Int)], H) := by
  obtain ⟨A', s1, hA'⟩ := hA.snap H 7
  obtain ⟨B', s2, hB'⟩ := hB.snap H 7
  exact PFn.call (fn34 (pg := pg) hF hA' hB' ha hb) (args := [A, B]) (ks := []) (fs := []) (cs := []) (by simp [snapArgs, s1, s2])

theorem l52_1_all {pg : Pg} (hF : Free pg) {X : TV} {ls : List (List Int)} (hX : SSV X ls) (hL : ∀ d ∈ ls, d.length ≤ 100) (hn : ls.length ≤ 100) {i : Nat} {a : List Int} (ha : ls[i]? = some a) : ∀ (r k : Nat), k + r = i → (∀ k' d', k' < k → ls[k']? = some d' → ∀ x ∈ a, x ∉ d') →
    (den pg l52_1 [(0, X), (3, .i .i64 (i : Int)), (4, .i .i64 (k : Int))] [] = some ⟨.ret, [(2, .b false)], []⟩ ∧ ¬ Apt ls) ∨
    (∃ v, den pg l52_1 [(0, X), (3, .i .i64 (i : Int)), (4, .i .i64 (k : Int))] [] = some ⟨.exit 2, [(0, X), (3, .i .i64 (i : Int)), (4, .i .i64 (i : Int)), (16, v)], []⟩ ∧ ∀ (k' : Nat) d', k' < i → ls[k']? = some d' → ∀ x ∈ a, x ∉ d')
  | 0, k, hk, hs => by
    obtain rfl : k = i := by omega
    refine .inr ⟨.b false, ?_, hs⟩
    rw [l52_1, den_loop]
    simp (disch := omega) [b52_0, gX0, gX1, gX2, gX3, gX4, gX5, gX6, gX7, gX8, gX9, gXa, gXb, gXc, gXd, gXe, gXf, gXg, gXh, gXi, gXj, gXk, gXl, gXm, gXn, gXo, gXp, gXq, gXr, gXs, gXt, gXu, gXv, gXw, gXx, k_mv, gXy, gXz, gX01, gX11, gX21, gX31, gX41, gX51, gX61, gX71, gX81, gX91, gXa1, gXb1, gXc1, gXd1, gXe1, gXf1, gXg1, gXh1, gXi1, gXj1, gXk1, gXl1, gXm1, gXn1, gXo1, gXp1, gXq1, gXr1, gXs1, gXt1, gXu1, k_mn, k_mx, gXv1, gXw1, gXx1, gXy1, gXz1, gX02, gX12, gX22, gX32, gX42, gX52, gX62, gX72, Dn.setLast, Dn.getLast, evalO, mapO, Dn.get, putE, gX82, gX92, gXa2, gXb2, TV.one, TV.isAgg, Dn.part, gXc2, negb, at0, at1, at2, at3, at4, dT, dF, gXd2, Option.bind_some, Option.map_some]
  | r + 1, k, hk, hs => by
    have hil := (List.getElem?_eq_some_iff.1 ha).1
    obtain ⟨b, hb⟩ : ∃ b, ls[k]? = some b := ⟨_, List.getElem?_eq_getElem (by omega)⟩
    obtain ⟨u, A, u1, u2, hA⟩ := hX.ix (pg := pg) (R := den pg) ha []
    obtain ⟨w, B, w1, w2, hB⟩ := hX.ix (pg := pg) (R := den pg) hb []
    have c := call34 (pg := pg) hF hA hB (hL a (List.mem_of_getElem? ha)) (hL b (List.mem_of_getElem? hb)) []
    have dd : decide ((k : Int) < (i : Int)) = true := dT (by omega)
    by_cases hz : same a b = 0
    · rw [hz] at c
      have hdis := same_zero.1 hz
      rcases l52_1_all (pg := pg) hF hX hL hn ha r (k + 1) (by omega) (fun k' d' hk' hd' => by
        by_cases e : k' = k
        · subst e
          rw [hb] at hd'; have e := Option.some.inj hd'; subst e
          exact hdis
        · exact hs k' d' (by omega) hd') with ⟨x1, x2⟩ | ⟨v, x1, x2⟩
      all_goals
        have w3 : wrapR .i64 ((k : Int) + 1) = .i .i64 ((k + 1 : Nat) : Int) := by rw [← Int.natCast_succ]; exact gXd2 (by omega)
        have e : den pg l52_1 [(0, X), (3, .i .i64 (i : Int)), (4, .i .i64 (k : Int))] [] = den pg l52_1 [(0, X), (3, .i .i64 (i : Int)), (4, .i .i64 ((k + 1 : Nat) : Int))] [] := by
          clear x1 x2 hA hB hX ha hb hs
          simp only [Int.natCast_zero] at c
          generalize (more a b : Int) = M at *
          generalize (less a b : Int) = L at *
          generalize ((k + 1 : Nat) : Int) = K2 at *
          generalize (k : Int) = K at *
          generalize (i : Int) = I at *
          conv => lhs; rw [l52_1, den_loop]
          simp (disch := omega) [l52_1, b52_0, gX0, gX1, gX2, gX3, gX4, gX5, gX6, gX7, gX8, gX9, gXa, gXb, gXc, gXd, gXe, gXf, gXg, gXh, gXi, gXj, gXk, gXl, gXm, gXn, gXo, gXp, gXq, gXr, gXs, gXt, gXu, gXv, gXw, gXx, k_mv, gXy, gXz, gX01, gX11, gX21, gX31, gX41, gX51, gX61, gX71, gX81, gX91, gXa1, gXb1, gXc1, gXd1, gXe1, gXf1, gXg1, gXh1, gXi1, gXj1, gXk1, gXl1, gXm1, gXn1, gXo1, gXp1, gXq1, gXr1, gXs1, gXt1, gXu1, k_mn, k_mx, gXv1, gXw1, gXx1, gXy1, gXz1, gX02, gX12, gX22, gX32, gX42, gX52, gX62, gX72, Dn.setLast, Dn.getLast, evalO, mapO, Dn.get, putE, gX82, gX92, gXa2, gXb2, TV.one, TV.isAgg, Dn.part, gXc2, negb, at0, at1, at2, at3, at4, dT, dF, gXd2, Option.bind_some, Option.map_some, dd, u1, u2, w1, w2, c, w3]
        rw [e]
      · exact .inl ⟨x1, x2⟩
      · exact .inr ⟨v, x1, x2⟩
    · refine .inl ⟨?_, fun hap => hz (same_zero.2 fun x hx => hap i k a b x (by omega) ha hb hx)⟩
      have d1 : decide (0 < (same a b : Int)) = true := dT (by omega)
      clear hA hB hX ha hb hs
      generalize (more a b : Int) = M at *
      generalize (less a b : Int) = L at *
      generalize (same a b : Int) = S at *
      generalize (k : Int) = K at *
      generalize (i : Int) = I at *
      rw [l52_1, den_loop]
      simp (disch := omega) [l52_1, b52_0, gX0, gX1, gX2, gX3, gX4, gX5, gX6, gX7, gX8, gX9, gXa, gXb, gXc, gXd, gXe, gXf, gXg, gXh, gXi, gXj, gXk, gXl, gXm, gXn, gXo, gXp, gXq, gXr, gXs, gXt, gXu, gXv, gXw, gXx, k_mv, gXy, gXz, gX01, gX11, gX21, gX31, gX41, gX51, gX61, gX71, gX81, gX91, gXa1, gXb1, gXc1, gXd1, gXe1, gXf1, gXg1, gXh1, gXi1, gXj1, gXk1, gXl1, gXm1, gXn1, gXo1, gXp1, gXq1, gXr1, gXs1, gXt1, gXu1, k_mn, k_mx, gXv1, gXw1, gXx1, gXy1, gXz1, gX02, gX12, gX22, gX32, gX42, gX52, gX62, gX72, Dn.setLast, Dn.getLast, evalO, mapO, Dn.get, putE, gX82, gX92, gXa2, gXb2, TV.one, TV.isAgg, Dn.part, gXc2, negb, at0, at1, at2, at3, at4, dT, dF, gXd2, Option.bind_some, Option.map_some, dd, u1, u2, w1, w2, c, d1]

theorem l52_3_all {pg : Pg} (hF : Free pg) {X : TV} {ls : List (List Int)} (hX : SSV X ls) (hL : ∀ d ∈ ls, d.length ≤ 100) (hn : ls.length ≤ 100) : ∀ (r i : Nat), i + r = ls.length → (∀ (i' k' : Nat) d d' (x : Int), k' < i' → i' < i → ls[i']? = some d → ls[k']? = some d' → x ∈ d → x ∉ d') →
    (den pg l52_3 [(0, X), (3, .i .i64 (i : Int))] [] = some ⟨.ret, [(2, .b false)], []⟩ ∧ ¬ Apt ls) ∨
    (∃ e, den pg l52_3 [(0, X), (3, .i .i64 (i : Int))] [] = some ⟨.exit 0, e, []⟩ ∧ Apt ls)
  | 0, i, hi, hs => by
    obtain rfl : i = ls.length := by omega
    have ln := hX.len []
    refine .inr ⟨[(0, X), (3, .i .i64 (ls.length : Int)), (11, .b false)], ?_, fun i k d d' f hk hd hd' hm => hs i k d d' f hk (List.getElem?_eq_some_iff.1 hd).1 hd hd' hm⟩
    rw [l52_3, den_loop]
    simp (disch := omega) [b52_2, gX0, gX1, gX2, gX3, gX4, gX5, gX6, gX7, gX8, gX9, gXa, gXb, gXc, gXd, gXe, gXf, gXg, gXh, gXi, gXj, gXk, gXl, gXm, gXn, gXo, gXp, gXq, gXr, gXs, gXt, gXu, gXv, gXw, gXx, k_mv, gXy, gXz, gX01, gX11, gX21, gX31, gX41, gX51, gX61, gX71, gX81, gX91, gXa1, gXb1, gXc1, gXd1, gXe1, gXf1, gXg1, gXh1, gXi1, gXj1, gXk1, gXl1, gXm1, gXn1, gXo1, gXp1, gXq1, gXr1, gXs1, gXt1, gXu1, k_mn, k_mx, gXv1, gXw1, gXx1, gXy1, gXz1, gX02, gX12, gX22, gX32, gX42, gX52, gX62, gX72, Dn.setLast, Dn.getLast, evalO, mapO, Dn.get, putE, gX82, gX92, gXa2, gXb2, TV.one, TV.isAgg, Dn.part, gXc2, negb, at0, at1, at2, at3, at4, dT, dF, gXd2, Option.bind_some, Option.map_some, ln]
  | r + 1, i, hi, hs => by
    have ln := hX.len []
    obtain ⟨a, ha⟩ : ∃ a, ls[i]? = some a := ⟨_, List.getElem?_eq_getElem (by omega)⟩
    have dd : decide ((i : Int) < (ls.length : Int)) = true := dT (by omega)
    rcases l52_1_all (pg := pg) hF hX hL hn ha i 0 (by omega) (fun k' d' hk' => by omega) with ⟨x1, x2⟩ | ⟨v, x1, x2⟩
    · refine .inl ⟨?_, x2⟩
      simp only [Int.natCast_zero] at x1
      clear hX ha hs
      obtain ⟨N, hN⟩ : ∃ N, N = ls.length := ⟨_, rfl⟩
      rw [← hN] at ln dd
      generalize (i : Int) = I at *
      rw [l52_3, den_loop]
      simp (disch := omega) [l52_3, b52_2, gX0, gX1, gX2, gX3, gX4, gX5, gX6, gX7, gX8, gX9, gXa, gXb, gXc, gXd, gXe, gXf, gXg, gXh, gXi, gXj, gXk, gXl, gXm, gXn, gXo, gXp, gXq, gXr, gXs, gXt, gXu, gXv, gXw, gXx, k_mv, gXy, gXz, gX01, gX11, gX21, gX31, gX41, gX51, gX61, gX71, gX81, gX91, gXa1, gXb1, gXc1, gXd1, gXe1, gXf1, gXg1, gXh1, gXi1, gXj1, gXk1, gXl1, gXm1, gXn1, gXo1, gXp1, gXq1, gXr1, gXs1, gXt1, gXu1, k_mn, k_mx, gXv1, gXw1, gXx1, gXy1, gXz1, gX02, gX12, gX22, gX32, gX42, gX52, gX62, gX72, Dn.setLast, Dn.getLast, evalO, mapO, Dn.get, putE, gX82, gX92, gXa2, gXb2, TV.one, TV.isAgg, Dn.part, gXc2, negb, at0, at1, at2, at3, at4, dT, dF, gXd2, Option.bind_some, Option.map_some, ln, dd, go_denK (c := l52_1) rfl, x1]
    · rcases l52_3_all (pg := pg) hF hX hL hn r (i + 1) (by omega) (fun i' k' d d' x hk hi' hd hd' hm => by
        by_cases e : i' = i
        · subst e
          rw [ha] at hd; have e := Option.some.inj hd; subst e
          exact x2 k' d' hk hd' x hm
        · exact hs i' k' d d' x hk (by omega) hd hd' hm) with ⟨y1, y2⟩ | ⟨e', y1, y2⟩
      all_goals
        have w3 : wrapR .i64 ((i : Int) + 1) = .i .i64 ((i + 1 : Nat) : Int) := by rw [← Int.natCast_succ]; exact gXd2 (by omega)
        have e : den pg l52_3 [(0, X), (3, .i .i64 (i : Int))] [] = den pg l52_3 [(0, X), (3, .i .i64 ((i + 1 : Nat) : Int))] [] := by
          simp only [Int.natCast_zero] at x1
          clear y1 y2 hX ha hs x2
          obtain ⟨N, hN⟩ : ∃ N, N = ls.length := ⟨_, rfl⟩
          rw [← hN] at ln dd
          generalize ((i + 1 : Nat) : Int) = I2 at *
          generalize (i : Int) = I at *
          conv => lhs; rw [l52_3, den_loop]
          simp (disch := omega) [l52_3, b52_2, gX0, gX1, gX2, gX3, gX4, gX5, gX6, gX7, gX8, gX9, gXa, gXb, gXc, gXd, gXe, gXf, gXg, gXh, gXi, gXj, gXk, gXl, gXm, gXn, gXo, gXp, gXq, gXr, gXs, gXt, gXu, gXv, gXw, gXx, k_mv, gXy, gXz, gX01, gX11, gX21, gX31, gX41, gX51, gX61, gX71, gX81, gX91, gXa1, gXb1, gXc1, gXd1, gXe1, gXf1, gXg1, gXh1, gXi1, gXj1, gXk1, gXl1, gXm1, gXn1, gXo1, gXp1, gXq1, gXr1, gXs1, gXt1, gXu1, k_mn, k_mx, gXv1, gXw1, gXx1, gXy1, gXz1, gX02, gX12, gX22, gX32, gX42, gX52, gX62, gX72, Dn.setLast, Dn.getLast, evalO, mapO, Dn.get, putE, gX82, gX92, gXa2, gXb2, TV.one, TV.isAgg, Dn.part, gXc2, negb, at0, at1, at2, at3, at4, dT, dF, gXd2, Option.bind_some, Option.map_some, ln, dd, go_denK (c := l52_1) rfl, x1, w3]
        rw [e]
      · exact .inl ⟨y1, y2⟩
      · exact .inr ⟨_, y1, y2⟩

theorem fn52 {pg : Pg} (hF : Free pg) {X : TV} {ls : List (List Int)} (hX : SSV X ls) (hL : ∀ d ∈ ls, d.length ≤ 100) (hn : ls.length ≤ 100) : (Apt ls → PFn pg 52 [X] (.b true)) ∧ (¬ Apt ls → PFn pg 52 [X] (.b false)) := by
  rcases l52_3_all (pg := pg) hF hX hL hn ls.length 0 (by omega) (fun i' k' d d' x _ h => by omega) with ⟨y1, y2⟩ | ⟨e, y1, y2⟩
  · refine ⟨fun h => absurd h y2, fun _ => .of1 (x := .ret) (e := [(2, .b false)]) (H' := []) (hF.S _ _) (d := d52) (by rw [hF.F]; rfl) rfl ?_ (.inl rfl) rfl (by simp [sn_i, sn_b, gXe2, gXf2, gXg2, gXh2, gXi2, gXj2, gXk2, gXl2, gXm2, gXn2, gXo2, gXp2, mapO, elems])⟩
    simp only [Int.natCast_zero] at y1
    simp (disch := omega) [d52, c52, zipE, gX0, gX1, gX2, gX3, gX4, gX5, gX6, gX7, gX8, gX9, gXa, gXb, gXc, gXd, gXe, gXf, gXg, gXh, gXi, gXj, gXk, gXl, gXm, gXn, gXo, gXp, gXq, gXr, gXs, gXt, gXu, gXv, gXw, gXx, k_mv, gXy, gXz, gX01, gX11, gX21, gX31, gX41, gX51, gX61, gX71, gX81, gX91, gXa1, gXb1, gXc1, gXd1, gXe1, gXf1, gXg1, gXh1, gXi1, gXj1, gXk1, gXl1, gXm1, gXn1, gXo1, gXp1, gXq1, gXr1, gXs1, gXt1, gXu1, k_mn, k_mx, gXv1, gXw1, gXx1, gXy1, gXz1, gX02, gX12, gX22, gX32, gX42, gX52, gX62, gX72, Dn.setLast, Dn.getLast, evalO, mapO, Dn.get, putE, gX82, gX92, gXa2, gXb2, TV.one, TV.isAgg, Dn.part, gXc2, negb, at0, at1, at2, at3, at4, dT, dF, gXd2, Option.bind_some, Option.map_some, go_denK (c := l52_3) rfl, y1]
  · refine ⟨fun _ => .of1 (x := .ret) (e := [(2, .b true)]) (H' := []) (hF.S _ _) (d := d52) (by rw [hF.F]; rfl) rfl ?_ (.inl rfl) rfl (by simp [sn_i, sn_b, gXe2, gXf2, gXg2, gXh2, gXi2, gXj2, gXk2, gXl2, gXm2, gXn2, gXo2, gXp2, mapO, elems]), fun h => absurd y2 h⟩
    simp only [Int.natCast_zero] at y1
    simp (disch := omega) [d52, c52, zipE, gX0, gX1, gX2, gX3, gX4, gX5, gX6, gX7, gX8, gX9, gXa, gXb, gXc, gXd, gXe, gXf, gXg, gXh, gXi, gXj, gXk, gXl, gXm, gXn, gXo, gXp, gXq, gXr, gXs, gXt, gXu, gXv, gXw, gXx, k_mv, gXy, gXz, gX01, gX11, gX21, gX31, gX41, gX51, gX61, gX71, gX81, gX91, gXa1, gXb1, gXc1, gXd1, gXe1, gXf1, gXg1, gXh1, gXi1, gXj1, gXk1, gXl1, gXm1, gXn1, gXo1, gXp1, gXq1, gXr1, gXs1, gXt1, gXu1, k_mn, k_mx, gXv1, gXw1, gXx1, gXy1, gXz1, gX02, gX12, gX22, gX32, gX42, gX52, gX62, gX72, Dn.setLast, Dn.getLast, evalO, mapO, Dn.get, putE, gX82, gX92, gXa2, gXb2, TV.one, TV.isAgg, Dn.part, gXc2, negb, at0, at1, at2, at3, at4, dT, dF, gXd2, Option.bind_some, Option.map_some, go_denK (c := l52_3) rfl, y1]

/-! ### Min and Max -/
theorem l72_1_all {pg : Pg} {L : TV} {o : List Int} (hL : SV L o) (hl : o.length ≤ 1000000) : ∀ (r k : Nat) (m : Int), k + r = o.length →
    ∃ v, den pg l72_1 [(0, L), (3, .i .i64 m), (4, .i .i64 (k : Int))] [] = some ⟨.exit 0, [(0, L), (3, .i .i64 ((o.drop k).foldl min m)), (4, .i .i64 (o.length : Int)), (15, v)], []⟩
  | 0, k, m, hk => by
    obtain rfl : k = o.length := by omega
    have ln := (hL.view []).lenK
    refine ⟨.b false, ?_⟩
    rw [List.drop_length, List.foldl_nil, l72_1, den_loop]
    simp (disch := omega) [b72_0, gX0, gX1, gX2, gX3, gX4, gX5, gX6, gX7, gX8, gX9, gXa, gXb, gXc, gXd, gXe, gXf, gXg, gXh, gXi, gXj, gXk, gXl, gXm, gXn, gXo, gXp, gXq, gXr, gXs, gXt, gXu, gXv, gXw, gXx, k_mv, gXy, gXz, gX01, gX11, gX21, gX31, gX41, gX51, gX61, gX71, gX81, gX91, gXa1, gXb1, gXc1, gXd1, gXe1, gXf1, gXg1, gXh1, gXi1, gXj1, gXk1, gXl1, gXm1, gXn1, gXo1, gXp1, gXq1, gXr1, gXs1, gXt1, gXu1, k_mn, k_mx, gXv1, gXw1, gXx1, gXy1, gXz1, gX02, gX12, gX22, gX32, gX42, gX52, gX62, gX72, Dn.setLast, Dn.getLast, evalO, mapO, Dn.get, putE, gX82, gX92, gXa2, gXb2, TV.one, TV.isAgg, Dn.part, gXc2, negb, at0, at1, at2, at3, at4, dT, dF, gXd2, Option.bind_some, Option.map_some, ln]
  | r + 1, k, m, hk => by
    obtain ⟨x, hx⟩ : ∃ x, o[k]? = some x := ⟨_, List.getElem?_eq_getElem (by omega)⟩
    have hdr : o.drop k = x :: o.drop (k + 1) := by
      obtain ⟨h1, rfl⟩ := List.getElem?_eq_some_iff.1 hx
      exact List.drop_eq_getElem_cons h1
    obtain ⟨p, p1, p2⟩ := ixI (pg := pg) (R := den pg) (hL.view []) hx
    have ln := (hL.view []).lenK
    have dd : decide ((k : Int) < (o.length : Int)) = true := dT (by omega)
    have w2 : wrapR .i64 ((k : Int) + 1) = .i .i64 ((k + 1 : Nat) : Int) := by rw [← Int.natCast_succ]; exact gXd2 (by omega)
    obtain ⟨v, ih⟩ := l72_1_all (pg := pg) hL hl r (k + 1) (min m x) (by omega)
    rw [hdr, List.foldl_cons]
    refine ⟨v, Eq.trans ?_ ih⟩
    have mn : ∀ K, dkc pg (den pg) .mnI [.i .i64 m, .i .i64 x] K = some (.i .i64 (min m x), K) := fun K => by
      show dk .mnI [.i .i64 m, .i .i64 x] K = _
      by_cases h : x < m
      · simp [dk, foldI, h, show min m x = x by omega]
      · simp [dk, foldI, h, show min m x = m by omega]
    clear ih hL hx hdr
    obtain ⟨N, hN⟩ : ∃ N, N = o.length := ⟨_, rfl⟩
    rw [← hN] at ln dd
    generalize min m x = MX at *
    generalize ((k + 1 : Nat) : Int) = K2 at *
    generalize (k : Int) = K at *
    conv => lhs; rw [l72_1, den_loop]
    simp (disch := omega) [l72_1, b72_0, gX0, gX1, gX2, gX3, gX4, gX5, gX6, gX7, gX8, gX9, gXa, gXb, gXc, gXd, gXe, gXf, gXg, gXh, gXi, gXj, gXk, gXl, gXm, gXn, gXo, gXp, gXq, gXr, gXs, gXt, gXu, gXv, gXw, gXx, k_mv, gXy, gXz, gX01, gX11, gX21, gX31, gX41, gX51, gX61, gX71, gX81, gX91, gXa1, gXb1, gXc1, gXd1, gXe1, gXf1, gXg1, gXh1, gXi1, gXj1, gXk1, gXl1, gXm1, gXn1, gXo1, gXp1, gXq1, gXr1, gXs1, gXt1, gXu1, k_mn, k_mx, gXv1, gXw1, gXx1, gXy1, gXz1, gX02, gX12, gX22, gX32, gX42, gX52, gX62, gX72, Dn.setLast, Dn.getLast, evalO, mapO, Dn.get, putE, gX82, gX92, gXa2, gXb2, TV.one, TV.isAgg, Dn.part, gXc2, negb, at0, at1, at2, at3, at4, dT, dF, gXd2, Option.bind_some, Option.map_some, ln, dd, p1, p2, mn, w2]

theorem l73_1_all {pg : Pg} {L : TV} {o : List Int} (hL : SV L o) (hl : o.length ≤ 1000000) : ∀ (r k : Nat) (m : Int), k + r = o.length →
    ∃ v, den pg l73_1 [(0, L), (3, .i .i64 m), (4, .i .i64 (k : Int))] [] = some ⟨.exit 0, [(0, L), (3, .i .i64 ((o.drop k).foldl max m)), (4, .i .i64 (o.length : Int)), (15, v)], []⟩
  | 0, k, m, hk => by
    obtain rfl : k = o.length := by omega
    have ln := (hL.view []).lenK
    refine ⟨.b false, ?_⟩
    rw [List.drop_length, List.foldl_nil, l73_1, den_loop]
    simp (disch := omega) [b73_0, gX0, gX1, gX2, gX3, gX4, gX5, gX6, gX7, gX8, gX9, gXa, gXb, gXc, gXd, gXe, gXf, gXg, gXh, gXi, gXj, gXk, gXl, gXm, gXn, gXo, gXp, gXq, gXr, gXs, gXt, gXu, gXv, gXw, gXx, k_mv, gXy, gXz, gX01, gX11, gX21, gX31, gX41, gX51, gX61, gX71, gX81, gX91, gXa1, gXb1, gXc1, gXd1, gXe1, gXf1, gXg1, gXh1, gXi1, gXj1, gXk1, gXl1, gXm1, gXn1, gXo1, gXp1, gXq1, gXr1, gXs1, gXt1, gXu1, k_mn, k_mx, gXv1, gXw1, gXx1, gXy1, gXz1, gX02, gX12, gX22, gX32, gX42, gX52, gX62, gX72, Dn.setLast, Dn.getLast, evalO, mapO, Dn.get, putE, gX82, gX92, gXa2, gXb2, TV.one, TV.isAgg, Dn.part, gXc2, negb, at0, at1, at2, at3, at4, dT, dF, gXd2, Option.bind_some, Option.map_some, ln]
  | r + 1, k, m, hk => by
    obtain ⟨x, hx⟩ : ∃ x, o[k]? = some x := ⟨_, List.getElem?_eq_getElem (by omega)⟩
    have hdr : o.drop k = x :: o.drop (k + 1) := by
      obtain ⟨h1, rfl⟩ := List.getElem?_eq_some_iff.1 hx
      exact List.drop_eq_getElem_cons h1
    obtain ⟨p, p1, p2⟩ := ixI (pg := pg) (R := den pg) (hL.view []) hx
    have ln := (hL.view []).lenK
    have dd : decide ((k : Int) < (o.length : Int)) = true := dT (by omega)
    have w2 : wrapR .i64 ((k : Int) + 1) = .i .i64 ((k + 1 : Nat) : Int) := by rw [← Int.natCast_succ]; exact gXd2 (by omega)
    obtain ⟨v, ih⟩ := l73_1_all (pg := pg) hL hl r (k + 1) (max m x) (by omega)
    rw [hdr, List.foldl_cons]
    refine ⟨v, Eq.trans ?_ ih⟩
    have mn : ∀ K, dkc pg (den pg) .mxI [.i .i64 m, .i .i64 x] K = some (.i .i64 (max m x), K) := fun K => by
      show dk .mxI [.i .i64 m, .i .i64 x] K = _
      by_cases h : m < x
      · simp [dk, foldI, h, show max m x = x by omega]
      · simp [dk, foldI, h, show max m x = m by omega]
    clear ih hL hx hdr
    obtain ⟨N, hN⟩ : ∃ N, N = o.length := ⟨_, rfl⟩
    rw [← hN] at ln dd
    generalize max m x = MX at *
    generalize ((k + 1 : Nat) : Int) = K2 at *
    generalize (k : Int) = K at *
    conv => lhs; rw [l73_1, den_loop]
    simp (disch := omega) [l73_1, b73_0, gX0, gX1, gX2, gX3, gX4, gX5, gX6, gX7, gX8, gX9, gXa, gXb, gXc, gXd, gXe, gXf, gXg, gXh, gXi, gXj, gXk, gXl, gXm, gXn, gXo, gXp, gXq, gXr, gXs, gXt, gXu, gXv, gXw, gXx, k_mv, gXy, gXz, gX01, gX11, gX21, gX31, gX41, gX51, gX61, gX71, gX81, gX91, gXa1, gXb1, gXc1, gXd1, gXe1, gXf1, gXg1, gXh1, gXi1, gXj1, gXk1, gXl1, gXm1, gXn1, gXo1, gXp1, gXq1, gXr1, gXs1, gXt1, gXu1, k_mn, k_mx, gXv1, gXw1, gXx1, gXy1, gXz1, gX02, gX12, gX22, gX32, gX42, gX52, gX62, gX72, Dn.setLast, Dn.getLast, evalO, mapO, Dn.get, putE, gX82, gX92, gXa2, gXb2, TV.one, TV.isAgg, Dn.part, gXc2, negb, at0, at1, at2, at3, at4, dT, dF, gXd2, Option.bind_some, Option.map_some, ln, dd, p1, p2, mn, w2]

theorem fn72 {pg : Pg} (hF : Free pg) {L : TV} {x : Int} {o : List Int} (hL : SV L (x :: o)) (hl : o.length ≤ 100000) : PFn pg 72 [L] (.i .i64 (o.foldl min x)) := by
  obtain ⟨v, q⟩ := l72_1_all (pg := pg) hL (by simp; omega) o.length 1 x (by simp; omega)
  have q : den pg l72_1 [(0, L), (3, .i .i64 x), (4, .i .i64 1)] [] = _ := q
  rw [show (x :: o).drop 1 = o from rfl] at q
  have ln := (hL.view []).lenK
  obtain ⟨p, p1, p2⟩ := ixI (pg := pg) (R := den pg) (hL.view []) (i := 0) (x := x) rfl
  have p1 : dkc pg (den pg) (.ixS 1 false) [L, .i .i64 0] [] = some (p, []) := p1
  have d1 : decide (((x :: o).length : Int) < 1) = false := dF (by simp; omega)
  refine .of1 (x := .ret) (e := [(2, .i .i64 (o.foldl min x))]) (H' := []) (hF.S _ _) (d := d72) (by rw [hF.F]; rfl) rfl ?_ (.inl rfl) rfl (by simp [sn_i, sn_b, gXe2, gXf2, gXg2, gXh2, gXi2, gXj2, gXk2, gXl2, gXm2, gXn2, gXo2, gXp2, mapO, elems])
  clear hL
  generalize o.foldl min x = M at *
  obtain ⟨N, hN⟩ : ∃ N, N = (x :: o).length := ⟨_, rfl⟩
  rw [← hN] at ln d1 q
  simp (disch := omega) [d72, c72, zipE, gX0, gX1, gX2, gX3, gX4, gX5, gX6, gX7, gX8, gX9, gXa, gXb, gXc, gXd, gXe, gXf, gXg, gXh, gXi, gXj, gXk, gXl, gXm, gXn, gXo, gXp, gXq, gXr, gXs, gXt, gXu, gXv, gXw, gXx, k_mv, gXy, gXz, gX01, gX11, gX21, gX31, gX41, gX51, gX61, gX71, gX81, gX91, gXa1, gXb1, gXc1, gXd1, gXe1, gXf1, gXg1, gXh1, gXi1, gXj1, gXk1, gXl1, gXm1, gXn1, gXo1, gXp1, gXq1, gXr1, gXs1, gXt1, gXu1, k_mn, k_mx, gXv1, gXw1, gXx1, gXy1, gXz1, gX02, gX12, gX22, gX32, gX42, gX52, gX62, gX72, Dn.setLast, Dn.getLast, evalO, mapO, Dn.get, putE, gX82, gX92, gXa2, gXb2, TV.one, TV.isAgg, Dn.part, gXc2, negb, at0, at1, at2, at3, at4, dT, dF, gXd2, Option.bind_some, Option.map_some, ln, d1, p1, p2, go_denK (c := l72_1) rfl, q]

theorem fn73 {pg : Pg} (hF : Free pg) {L : TV} {x : Int} {o : List Int} (hL : SV L (x :: o)) (hl : o.length ≤ 100000) : PFn pg 73 [L] (.i .i64 (o.foldl max x)) := by
  obtain ⟨v, q⟩ := l73_1_all (pg := pg) hL (by simp; omega) o.length 1 x (by simp; omega)
  have q : den pg l73_1 [(0, L), (3, .i .i64 x), (4, .i .i64 1)] [] = _ := q
  rw [show (x :: o).drop 1 = o from rfl] at q
  have ln := (hL.view []).lenK
  obtain ⟨p, p1, p2⟩ := ixI (pg := pg) (R := den pg) (hL.view []) (i := 0) (x := x) rfl
  have p1 : dkc pg (den pg) (.ixS 1 false) [L, .i .i64 0] [] = some (p, []) := p1
  have d1 : decide (((x :: o).length : Int) < 1) = false := dF (by simp; omega)
  refine .of1 (x := .ret) (e := [(2, .i .i64 (o.foldl max x))]) (H' := []) (hF.S _ _) (d := d73) (by rw [hF.F]; rfl) rfl ?_ (.inl rfl) rfl (by simp [sn_i, sn_b, gXe2, gXf2, gXg2, gXh2, gXi2, gXj2, gXk2, gXl2, gXm2, gXn2, gXo2, gXp2, mapO, elems])
  clear hL
  generalize o.foldl max x = M at *
  obtain ⟨N, hN⟩ : ∃ N, N = (x :: o).length := ⟨_, rfl⟩
  rw [← hN] at ln d1 q
  simp (disch := omega) [d73, c73, zipE, gX0, gX1, gX2, gX3, gX4, gX5, gX6, gX7, gX8, gX9, gXa, gXb, gXc, gXd, gXe, gXf, gXg, gXh, gXi, gXj, gXk, gXl, gXm, gXn, gXo, gXp, gXq, gXr, gXs, gXt, gXu, gXv, gXw, gXx, k_mv, gXy, gXz, gX01, gX11, gX21, gX31, gX41, gX51, gX61, gX71, gX81, gX91, gXa1, gXb1, gXc1, gXd1, gXe1, gXf1, gXg1, gXh1, gXi1, gXj1, gXk1, gXl1, gXm1, gXn1, gXo1, gXp1, gXq1, gXr1, gXs1, gXt1, gXu1, k_mn, k_mx, gXv1, gXw1, gXx1, gXy1, gXz1, gX02, gX12, gX22, gX32, gX42, gX52, gX62, gX72, Dn.setLast, Dn.getLast, evalO, mapO, Dn.get, putE, gX82, gX92, gXa2, gXb2, TV.one, TV.isAgg, Dn.part, gXc2, negb, at0, at1, at2, at3, at4, dT, dF, gXd2, Option.bind_some, Option.map_some, ln, d1, p1, p2, go_denK (c := l73_1) rfl, q]

theorem minmax : ∀ (o : List Int) (a b : Int), o.foldl min a ≤ a ∧ b ≤ o.foldl max b ∧ ((∀ y ∈ o, o.foldl min a ≤ y) ∧ ∀ y ∈ o, y ≤ o.foldl max b)
  | [], a, b => ⟨by simp, by simp, by simp, by simp⟩
  | z :: o, a, b => by
    obtain ⟨h1, h2, h3, h4⟩ := minmax o (min a z) (max b z)
    simp only [List.foldl_cons]
    refine ⟨by omega, by omega, fun y hy => ?_, fun y hy => ?_⟩
    · rcases List.mem_cons.1 hy with rfl | hy
      · omega
      · exact h3 y hy
    · rcases List.mem_cons.1 hy with rfl | hy
      · omega
      · exact h4 y hy

theorem minmax_eq {x : Int} : ∀ {o : List Int}, (∀ y ∈ o, y = x) → o.foldl min x = x ∧ o.foldl max x = x
  | [], _ => ⟨rfl, rfl⟩
  | z :: o, h => by
    have hz := h z (List.mem_cons_self ..)
    subst hz
    have := minmax_eq (x := z) (o := o) fun y hy => h y (List.mem_cons_of_mem _ hy)
    simp only [List.foldl_cons]
    rw [show min z z = z by omega, show max z z = z by omega]
    exact this

def fairB (o : List Int) : Bool := match o with | [] => true | x :: o => o.all fun y => decide (y = x)

theorem fair_mm (x : Int) (o : List Int) : (o.foldl min x = o.foldl max x) ↔ fairB (x :: o) = true := by
  unfold fairB
  simp only [List.all_eq_true, decide_eq_true_eq]
  constructor
  · intro h y hy
    obtain ⟨h1, h2, h3, h4⟩ := minmax o x x
    have := h3 y hy; have := h4 y hy
    omega
  · intro h
    obtain ⟨h1, h2⟩ := minmax_eq h
    rw [h1, h2]

theorem ordN_ne {ls : List (List Int)} (h : ls.length ≤ 4) : ordN ls ≠ [] ∧ (ordN ls).length ≤ 24 := by
  have hp : ∀ n, n ≤ 4 → perms n n [] ≠ [] ∧ (perms n n []).length ≤ 24 := by
    intro n hn
    match n, hn with
    | 0, _ => exact ⟨by decide, by decide⟩
    | 1, _ => exact ⟨by decide, by decide⟩
    | 2, _ => exact ⟨by decide, by decide⟩
    | 3, _ => exact ⟨by decide, by decide⟩
    | 4, _ => exact ⟨by decide +kernel, by decide +kernel⟩
  unfold ordN
  have := hp ls.length h
  exact ⟨by simpa using this.1, by rw [List.length_map]; exact this.2⟩

theorem fn51 {pg : Pg} (hF : Free pg) {T : TV} {ls : List (List Int)} (hT : SSV T ls) (hl : ls.length ≤ 1000000) (hL : ∀ x ∈ ls, x.length ≤ 1000000) (h0 : chkD ls = 0) :
    (4 < ls.length → PFn pg 51 [T] (.tup [.b false, .i .i64 2])) ∧ (ls.length ≤ 4 → ¬ Apt ls → PFn pg 51 [T] (.tup [.b false, .i .i64 10])) ∧ (ls.length ≤ 4 → Apt ls → PFn pg 51 [T] (.tup [.b (fairB (ordN ls)), .i .i64 0])) := by
  obtain ⟨T', s1, hT'⟩ := snapSSV hT []
  obtain ⟨_, f2, f3, f4⟩ := fn41 (pg := pg) hF hT' hl hL
  have ca : ∀ {v : TV}, PFn pg 41 [T'] v → callRun pg (den pg) (.pu []) [.fn 41 [] [], T] [] = some (v, []) := fun {v} h => PFn.call h (args := [T]) (ks := []) (fs := []) (cs := []) (H := []) (by simpa using s1)
  refine ⟨fun h4 => ?_, fun h4 hap => ?_, fun h4 hap => ?_⟩
  · have c41 := ca (f2 h0 h4)
    refine .of2 (x := .ret) (e := [(2, .b false), (3, .i .i64 2)]) (H' := []) (hF.S _ _) (d := d51) (by rw [hF.F]; rfl) rfl ?_ (.inl rfl) rfl (by simp) (by simp [mapO, sn_i, sn_b, gXe2, gXf2, gXg2, gXh2, gXi2, gXj2, gXk2, gXl2, gXm2, gXn2, gXo2, gXp2, mapO, elems])
    simp (disch := omega) [d51, c51, zipE, gX0, gX1, gX2, gX3, gX4, gX5, gX6, gX7, gX8, gX9, gXa, gXb, gXc, gXd, gXe, gXf, gXg, gXh, gXi, gXj, gXk, gXl, gXm, gXn, gXo, gXp, gXq, gXr, gXs, gXt, gXu, gXv, gXw, gXx, k_mv, gXy, gXz, gX01, gX11, gX21, gX31, gX41, gX51, gX61, gX71, gX81, gX91, gXa1, gXb1, gXc1, gXd1, gXe1, gXf1, gXg1, gXh1, gXi1, gXj1, gXk1, gXl1, gXm1, gXn1, gXo1, gXp1, gXq1, gXr1, gXs1, gXt1, gXu1, k_mn, k_mx, gXv1, gXw1, gXx1, gXy1, gXz1, gX02, gX12, gX22, gX32, gX42, gX52, gX62, gX72, Dn.setLast, Dn.getLast, evalO, mapO, Dn.get, putE, gX82, gX92, gXa2, gXb2, TV.one, TV.isAgg, Dn.part, gXc2, negb, at0, at1, at2, at3, at4, dT, dF, gXd2, Option.bind_some, Option.map_some, c41]
  · have c41 := ca (f3 h0 h4 hap)
    refine .of2 (x := .ret) (e := [(2, .b false), (3, .i .i64 10)]) (H' := []) (hF.S _ _) (d := d51) (by rw [hF.F]; rfl) rfl ?_ (.inl rfl) rfl (by simp) (by simp [mapO, sn_i, sn_b, gXe2, gXf2, gXg2, gXh2, gXi2, gXj2, gXk2, gXl2, gXm2, gXn2, gXo2, gXp2, mapO, elems])
    simp (disch := omega) [d51, c51, zipE, gX0, gX1, gX2, gX3, gX4, gX5, gX6, gX7, gX8, gX9, gXa, gXb, gXc, gXd, gXe, gXf, gXg, gXh, gXi, gXj, gXk, gXl, gXm, gXn, gXo, gXp, gXq, gXr, gXs, gXt, gXu, gXv, gXw, gXx, k_mv, gXy, gXz, gX01, gX11, gX21, gX31, gX41, gX51, gX61, gX71, gX81, gX91, gXa1, gXb1, gXc1, gXd1, gXe1, gXf1, gXg1, gXh1, gXi1, gXj1, gXk1, gXl1, gXm1, gXn1, gXo1, gXp1, gXq1, gXr1, gXs1, gXt1, gXu1, k_mn, k_mx, gXv1, gXw1, gXx1, gXy1, gXz1, gX02, gX12, gX22, gX32, gX42, gX52, gX62, gX72, Dn.setLast, Dn.getLast, evalO, mapO, Dn.get, putE, gX82, gX92, gXa2, gXb2, TV.one, TV.isAgg, Dn.part, gXc2, negb, at0, at1, at2, at3, at4, dT, dF, gXd2, Option.bind_some, Option.map_some, c41]
  · have c41 := ca (f4 h0 h4 hap)
    obtain ⟨ne, le⟩ := ordN_ne h4
    cases ho : ordN ls with
    | nil => exact absurd ho ne
    | cons x o =>
      rw [ho] at c41 le
      have hs := fun K => El.lt_snap elI_flat false (x :: o) K
      have c72 := fun K => PFn.call (fn72 (pg := pg) hF (SV.lt true (x :: o)) (by simp at le; omega)) (args := [elI.lt false (x :: o)]) (ks := []) (fs := []) (cs := []) (H := K) (by simp [snapArgs, hs])
      have c73 := fun K => PFn.call (fn73 (pg := pg) hF (SV.lt true (x :: o)) (by simp at le; omega)) (args := [elI.lt false (x :: o)]) (ks := []) (fs := []) (cs := []) (H := K) (by simp [snapArgs, hs])
      have hfm := fair_mm x o
      refine .of2 (x := .ret) (e := [(2, .b (fairB (x :: o))), (3, .i .i64 0)]) (H' := []) (hF.S _ _) (d := d51) (by rw [hF.F]; rfl) rfl ?_ (.inl rfl) rfl (by simp) (by simp [mapO, sn_i, sn_b, gXe2, gXf2, gXg2, gXh2, gXi2, gXj2, gXk2, gXl2, gXm2, gXn2, gXo2, gXp2, mapO, elems])
      generalize fairB (x :: o) = FB at *
      generalize elI.lt false (x :: o) = LV at *
      generalize o.foldl min x = MN at *
      generalize o.foldl max x = MX at *
      have hb : (MN == MX) = FB := by
        cases FB with
        | true => have := hfm.2 rfl; simp [this]
        | false =>
          have : ¬ MN = MX := fun e => by have := hfm.1 e; cases this
          simp [this]
      simp (disch := omega) [d51, c51, zipE, gX0, gX1, gX2, gX3, gX4, gX5, gX6, gX7, gX8, gX9, gXa, gXb, gXc, gXd, gXe, gXf, gXg, gXh, gXi, gXj, gXk, gXl, gXm, gXn, gXo, gXp, gXq, gXr, gXs, gXt, gXu, gXv, gXw, gXx, k_mv, gXy, gXz, gX01, gX11, gX21, gX31, gX41, gX51, gX61, gX71, gX81, gX91, gXa1, gXb1, gXc1, gXd1, gXe1, gXf1, gXg1, gXh1, gXi1, gXj1, gXk1, gXl1, gXm1, gXn1, gXo1, gXp1, gXq1, gXr1, gXs1, gXt1, gXu1, k_mn, k_mx, gXv1, gXw1, gXx1, gXy1, gXz1, gX02, gX12, gX22, gX32, gX42, gX52, gX62, gX72, Dn.setLast, Dn.getLast, evalO, mapO, Dn.get, putE, gX82, gX92, gXa2, gXb2, TV.one, TV.isAgg, Dn.part, gXc2, negb, at0, at1, at2, at3, at4, dT, dF, gXd2, Option.bind_some, Option.map_some, c41, c72, c73, hb]

end Go.Proofs.Try.Dn

