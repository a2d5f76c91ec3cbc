/-
  Dice: even dice: the law run.
-/
import Derived.Test.YtijeefncmgjlpaaTH
set_option linter.unusedSimpArgs false
set_option linter.unusedVariables false

set_option maxHeartbeats 4000000
set_option maxRecDepth 100000
namespace Go.Proofs.Try.Dn
open Go.Dn

theorem l5_1_all {pg : Pg} (hF : Free pg) (hQ : pg.Q 81 = some 2) : ∀ (r k : Nat) (n m : Int), k + r = 2 →
    ∃ e, den pg l5_1 [(0, .i .i64 n), (1, .i .i64 m), (5, .i .i64 (k : Int))] [] = some ⟨.exit 0, e, []⟩
  | 0, k, n, m, hk => by
    obtain rfl : k = 2 := by omega
    refine ⟨[(0, .i .i64 n), (1, .i .i64 m), (5, .i .i64 2), (11, .b false)], ?_⟩
    rw [l5_1, den_loop]
    simp (disch := omega) [b5_0, gX0, gX1, gX2, gX3, gX4, gX5, gX6, gX7, gX8, gX9, gXa, gXb, gXc, gXd, gXe, gXf, gXg, gXh, gXi, gXj, gXk, gXl, gXm, gXn, gXo, gXp, gXq, gXr, gXs, gXt, gXu, gXv, gXw, gXx, k_mv, gXy, gXz, gX01, gX11, gX21, gX31, gX41, gX51, gX61, gX71, gX81, gX91, gXa1, gXb1, gXc1, gXd1, gXe1, gXf1, gXg1, gXh1, gXi1, gXj1, gXk1, gXl1, gXm1, gXn1, gXo1, gXp1, gXq1, gXr1, gXs1, gXt1, gXu1, k_mn, k_mx, gXv1, gXw1, gXx1, gXy1, gXz1, gX02, gX12, gX22, gX32, gX42, gX52, gX62, gX72, Dn.setLast, Dn.getLast, evalO, mapO, Dn.get, putE, gX82, gX92, gXa2, gXb2, TV.one, TV.isAgg, Dn.part, gXc2, negb, at0, at1, at2, at3, at4, dT, dF, gXd2, Option.bind_some, Option.map_some]
  | r + 1, k, n, m, hk => by
    obtain ⟨w, x, f1, f2, f3, f4⟩ := conv_rem n (n := 8) (by omega) (by omega)
    obtain ⟨w', x', g1, g2, g3, g4⟩ := conv_rem m (n := 8) (by omega) (by omega)
    obtain ⟨N2, hN2⟩ : ∃ N2, N2 = 1 + (x : Int) := ⟨_, rfl⟩
    obtain ⟨M2, hM2⟩ : ∃ M2, M2 = 1 + (x' : Int) := ⟨_, rfl⟩
    have a1 : wrapR .i64 (1 + (x : Int)) = .i .i64 N2 := by rw [hN2]; exact gXd2 (by omega)
    have a2 : wrapR .i64 (1 + (x' : Int)) = .i .i64 M2 := by rw [hM2]; exact gXd2 (by omega)
    have w2 : wrapR .i64 ((k : Int) + 1) = .i .i64 ((k + 1 : Nat) : Int) := by rw [← Int.natCast_succ]; exact gXd2 (by omega)
    have dd : decide ((k : Int) < 2) = true := dT (by omega)
    obtain ⟨e, r1⟩ := l5_1_all (pg := pg) hF hQ r (k + 1) N2 M2 (by omega)
    refine ⟨e, Eq.trans ?_ r1⟩
    simp only [Int.cast_ofNat_Int] at f2 g2
    by_cases hs : 1 ≤ n ∧ n ≤ 8 ∧ 1 ≤ m ∧ m ≤ 8
    · have hn : 1 ≤ n.toNat ∧ n.toNat ≤ 8 := by omega
      have hm : 1 ≤ m.toNat ∧ m.toNat ≤ 8 := by omega
      have en : ((n.toNat : Nat) : Int) = n := by omega
      have em : ((m.toNat : Nat) : Int) = m := by omega
      have c24 := PFn.call (fn24 (pg := pg) hF hQ hn hm) (args := [.i .i64 ((n.toNat : Nat) : Int), .i .i64 ((m.toNat : Nat) : Int)]) (ks := []) (fs := []) (cs := []) (H := []) (by simp [snapArgs, sn_i])
      have c25 := PFn.call (fn25 (pg := pg) hF hn hm) (args := [.i .i64 ((n.toNat : Nat) : Int), .i .i64 ((m.toNat : Nat) : Int)]) (ks := []) (fs := []) (cs := []) (H := []) (by simp [snapArgs, sn_i])
      have c26 := PFn.call (fn26 (pg := pg) hF hn hm) (args := [.i .i64 ((n.toNat : Nat) : Int), .i .i64 ((m.toNat : Nat) : Int)]) (ks := []) (fs := []) (cs := []) (H := []) (by simp [snapArgs, sn_i])
      have c27 := PFn.call (fn27 (pg := pg) hF hn hm) (args := [.i .i64 ((n.toNat : Nat) : Int), .i .i64 ((m.toNat : Nat) : Int)]) (ks := []) (fs := []) (cs := []) (H := []) (by simp [snapArgs, sn_i])
      obtain ⟨s1, s2⟩ := even_short hn hm
      have c21 := call21 (pg := pg) hF _ _ s2 s2 s1 s1 []
      rw [decide_eq_true rfl] at c21
      rw [en, em] at c24 c25 c26 c27
      have d1 : decide (n < 1) = false := dF (by omega)
      have d2 : decide (n > 8) = false := dF (by omega)
      have d3 : decide (m < 1) = false := dF (by omega)
      have d4 : decide (m > 8) = false := dF (by omega)
      clear s1 s2 hn hm en em hs r1 hk f3 g3 hN2 hM2
      generalize LPv (evenL n.toNat m.toNat) = R at *
      generalize ((chC n.toNat m.toNat : Nat) : Int) = C at *
      generalize ((k + 1 : Nat) : Int) = K2 at *
      generalize (k : Int) = K at *
      generalize (x : Int) = X at *
      generalize (x' : Int) = X' at *
      generalize (w : Int) = W at *
      generalize (w' : Int) = W' at *
      rw [l5_1, den_loop]
      simp (disch := omega) [l5_1, b5_0, gX0, gX1, gX2, gX3, gX4, gX5, gX6, gX7, gX8, gX9, gXa, gXb, gXc, gXd, gXe, gXf, gXg, gXh, gXi, gXj, gXk, gXl, gXm, gXn, gXo, gXp, gXq, gXr, gXs, gXt, gXu, gXv, gXw, gXx, k_mv, gXy, gXz, gX01, gX11, gX21, gX31, gX41, gX51, gX61, gX71, gX81, gX91, gXa1, gXb1, gXc1, gXd1, gXe1, gXf1, gXg1, gXh1, gXi1, gXj1, gXk1, gXl1, gXm1, gXn1, gXo1, gXp1, gXq1, gXr1, gXs1, gXt1, gXu1, k_mn, k_mx, gXv1, gXw1, gXx1, gXy1, gXz1, gX02, gX12, gX22, gX32, gX42, gX52, gX62, gX72, Dn.setLast, Dn.getLast, evalO, mapO, Dn.get, putE, gX82, gX92, gXa2, gXb2, TV.one, TV.isAgg, Dn.part, gXc2, negb, at0, at1, at2, at3, at4, dT, dF, gXd2, Option.bind_some, Option.map_some, dd, c24, c25, c26, c27, c21, d1, d2, d3, d4, f1, f2, f4, g1, g2, g4, a1, a2, w2]
    · have hb : sizesB n m = false := by unfold sizesB; exact dF (by omega)
      have c24 := PFn.call (fn24_bad (pg := pg) hF hb) (args := [.i .i64 n, .i .i64 m]) (ks := []) (fs := []) (cs := []) (H := []) (by simp [snapArgs, sn_i])
      have c25 := PFn.call (fn25_bad (pg := pg) hF hb) (args := [.i .i64 n, .i .i64 m]) (ks := []) (fs := []) (cs := []) (H := []) (by simp [snapArgs, sn_i])
      have l0 : ∀ K, lenK 0 .nilsl K = some 0 := fun K => rfl
      have l0' : ∀ K, (lenK 0 .nilsl K).map (fun (n : Nat) => TV.i .i64 (n : Int)) = some (.i .i64 0) := fun K => rfl
      have key : ∀ (c1 c2 c3 c4 : Bool), decide (n < 1) = c1 → decide (n > 8) = c2 → decide (m < 1) = c3 → decide (m > 8) = c4 → (c1 || c2 || c3 || c4) = true →
          den pg l5_1 [(0, .i .i64 n), (1, .i .i64 m), (5, .i .i64 (k : Int))] [] = den pg l5_1 [(0, .i .i64 N2), (1, .i .i64 M2), (5, .i .i64 ((k + 1 : Nat) : Int))] [] := by
        intro c1 c2 c3 c4 d1 d2 d3 d4 hc
        clear hb hs r1 hk f3 g3 hN2 hM2
        generalize ((k + 1 : Nat) : Int) = K2 at *
        generalize (k : Int) = K at *
        generalize (x : Int) = X at *
        generalize (x' : Int) = X' at *
        generalize (w : Int) = W at *
        generalize (w' : Int) = W' at *
        conv => lhs; rw [l5_1, den_loop]
        cases c1
        · cases c2
          · cases c3
            · cases c4
              · simp at hc
              · simp (disch := omega) [l5_1, b5_0, gX0, gX1, gX2, gX3, gX4, gX5, gX6, gX7, gX8, gX9, gXa, gXb, gXc, gXd, gXe, gXf, gXg, gXh, gXi, gXj, gXk, gXl, gXm, gXn, gXo, gXp, gXq, gXr, gXs, gXt, gXu, gXv, gXw, gXx, k_mv, gXy, gXz, gX01, gX11, gX21, gX31, gX41, gX51, gX61, gX71, gX81, gX91, gXa1, gXb1, gXc1, gXd1, gXe1, gXf1, gXg1, gXh1, gXi1, gXj1, gXk1, gXl1, gXm1, gXn1, gXo1, gXp1, gXq1, gXr1, gXs1, gXt1, gXu1, k_mn, k_mx, gXv1, gXw1, gXx1, gXy1, gXz1, gX02, gX12, gX22, gX32, gX42, gX52, gX62, gX72, Dn.setLast, Dn.getLast, evalO, mapO, Dn.get, putE, gX82, gX92, gXa2, gXb2, TV.one, TV.isAgg, Dn.part, gXc2, negb, at0, at1, at2, at3, at4, dT, dF, gXd2, Option.bind_some, Option.map_some, dd, c24, c25, l0, l0', d1, d2, d3, d4, f1, f2, f4, g1, g2, g4, a1, a2, w2]
            · simp (disch := omega) [l5_1, b5_0, gX0, gX1, gX2, gX3, gX4, gX5, gX6, gX7, gX8, gX9, gXa, gXb, gXc, gXd, gXe, gXf, gXg, gXh, gXi, gXj, gXk, gXl, gXm, gXn, gXo, gXp, gXq, gXr, gXs, gXt, gXu, gXv, gXw, gXx, k_mv, gXy, gXz, gX01, gX11, gX21, gX31, gX41, gX51, gX61, gX71, gX81, gX91, gXa1, gXb1, gXc1, gXd1, gXe1, gXf1, gXg1, gXh1, gXi1, gXj1, gXk1, gXl1, gXm1, gXn1, gXo1, gXp1, gXq1, gXr1, gXs1, gXt1, gXu1, k_mn, k_mx, gXv1, gXw1, gXx1, gXy1, gXz1, gX02, gX12, gX22, gX32, gX42, gX52, gX62, gX72, Dn.setLast, Dn.getLast, evalO, mapO, Dn.get, putE, gX82, gX92, gXa2, gXb2, TV.one, TV.isAgg, Dn.part, gXc2, negb, at0, at1, at2, at3, at4, dT, dF, gXd2, Option.bind_some, Option.map_some, dd, c24, c25, l0, l0', d1, d2, d3, f1, f2, f4, g1, g2, g4, a1, a2, w2]
          · simp (disch := omega) [l5_1, b5_0, gX0, gX1, gX2, gX3, gX4, gX5, gX6, gX7, gX8, gX9, gXa, gXb, gXc, gXd, gXe, gXf, gXg, gXh, gXi, gXj, gXk, gXl, gXm, gXn, gXo, gXp, gXq, gXr, gXs, gXt, gXu, gXv, gXw, gXx, k_mv, gXy, gXz, gX01, gX11, gX21, gX31, gX41, gX51, gX61, gX71, gX81, gX91, gXa1, gXb1, gXc1, gXd1, gXe1, gXf1, gXg1, gXh1, gXi1, gXj1, gXk1, gXl1, gXm1, gXn1, gXo1, gXp1, gXq1, gXr1, gXs1, gXt1, gXu1, k_mn, k_mx, gXv1, gXw1, gXx1, gXy1, gXz1, gX02, gX12, gX22, gX32, gX42, gX52, gX62, gX72, Dn.setLast, Dn.getLast, evalO, mapO, Dn.get, putE, gX82, gX92, gXa2, gXb2, TV.one, TV.isAgg, Dn.part, gXc2, negb, at0, at1, at2, at3, at4, dT, dF, gXd2, Option.bind_some, Option.map_some, dd, c24, c25, l0, l0', d1, d2, f1, f2, f4, g1, g2, g4, a1, a2, w2]
        · simp (disch := omega) [l5_1, b5_0, gX0, gX1, gX2, gX3, gX4, gX5, gX6, gX7, gX8, gX9, gXa, gXb, gXc, gXd, gXe, gXf, gXg, gXh, gXi, gXj, gXk, gXl, gXm, gXn, gXo, gXp, gXq, gXr, gXs, gXt, gXu, gXv, gXw, gXx, k_mv, gXy, gXz, gX01, gX11, gX21, gX31, gX41, gX51, gX61, gX71, gX81, gX91, gXa1, gXb1, gXc1, gXd1, gXe1, gXf1, gXg1, gXh1, gXi1, gXj1, gXk1, gXl1, gXm1, gXn1, gXo1, gXp1, gXq1, gXr1, gXs1, gXt1, gXu1, k_mn, k_mx, gXv1, gXw1, gXx1, gXy1, gXz1, gX02, gX12, gX22, gX32, gX42, gX52, gX62, gX72, Dn.setLast, Dn.getLast, evalO, mapO, Dn.get, putE, gX82, gX92, gXa2, gXb2, TV.one, TV.isAgg, Dn.part, gXc2, negb, at0, at1, at2, at3, at4, dT, dF, gXd2, Option.bind_some, Option.map_some, dd, c24, c25, l0, l0', d1, f1, f2, f4, g1, g2, g4, a1, a2, w2]
      refine key _ _ _ _ rfl rfl rfl rfl ?_
      simp only [Bool.or_eq_true, decide_eq_true_eq]
      omega

theorem run5 {pg : Pg} (hF : Free pg) (hQ : pg.Q 81 = some 2) (h23 : PFn pg 23 [] (.b true)) (n m : Int) : ∃ H, bodyRun pg (den pg) 5 [.i .i64 n, .i .i64 m] [] = some (.b true, H) := by
  have c23 := PFn.call h23 (args := []) (ks := []) (fs := []) (cs := []) (H := []) (by simp [snapArgs])
  obtain ⟨e, r⟩ := l5_1_all (pg := pg) hF hQ 2 0 n m (by omega)
  refine ⟨[], body_of (x := .ret) (e := [(4, .b true)]) (d := d5) (by rw [hF.F]; rfl) rfl ?_ (.inl rfl) rfl⟩
  simp only [Int.natCast_zero] at r
  simp (maxSteps := 1000000) (disch := omega) [d5, c5, zipE, gX0, gX1, gX2, gX3, gX4, gX5, gX6, gX7, gX8, gX9, gXa, gXb, gXc, gXd, gXe, gXf, gXg, gXh, gXi, gXj, gXk, gXl, gXm, gXn, gXo, gXp, gXq, gXr, gXs, gXt, gXu, gXv, gXw, gXx, k_mv, gXy, gXz, gX01, gX11, gX21, gX31, gX41, gX51, gX61, gX71, gX81, gX91, gXa1, gXb1, gXc1, gXd1, gXe1, gXf1, gXg1, gXh1, gXi1, gXj1, gXk1, gXl1, gXm1, gXn1, gXo1, gXp1, gXq1, gXr1, gXs1, gXt1, gXu1, k_mn, k_mx, gXv1, gXw1, gXx1, gXy1, gXz1, gX02, gX12, gX22, gX32, gX42, gX52, gX62, gX72, Dn.setLast, Dn.getLast, evalO, mapO, Dn.get, putE, gX82, gX92, gXa2, gXb2, TV.one, TV.isAgg, Dn.part, gXc2, negb, at0, at1, at2, at3, at4, dT, dF, gXd2, Option.bind_some, Option.map_some, go_denK (c := l5_1) rfl, r, c23]

end Go.Proofs.Try.Dn

