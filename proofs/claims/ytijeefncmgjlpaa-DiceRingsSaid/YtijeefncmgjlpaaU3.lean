/-
  The reference's HasRing, walked.
-/
import Derived.Test.YtijeefncmgjlpaaU1
set_option linter.unusedSimpArgs false
set_option linter.unusedVariables false

set_option maxHeartbeats 4000000
set_option maxRecDepth 100000
namespace Go.Proofs.Try.Dn
open Go.Dn

theorem RowH.ixN {pg : Pg} (H : Heap) (id : Nat) {M t : Nat} (ht : t < M) : dkc pg (den pg) (.ixS 1 false) [.sl id 0 1 false M (some M), .i .i64 (t : Int)] H = some (.ref id t, H) := by
  simp [dkc, dk, bound, ht]

theorem flat_lt {n i j : Nat} (hi : i < n) (hj : j < n) : i * n + j < n * n := by
  have : (i + 1) * n ≤ n * n := Nat.mul_le_mul_right _ hi
  rw [Nat.add_mul] at this
  omega

theorem RowH.congr {H : Heap} {id M : Nat} {G G' : Nat → Bool} (h : RowH H id M G) (hg : ∀ u, u < M → G u = G' u) : RowH H id M G' := ⟨by
  rw [h.at_]
  congr 2
  unfold gH
  exact List.map_congr_left fun u hu => by rw [hg u (List.mem_range.1 hu)]⟩

theorem l37_1_all {pg : Pg} (hF : Free pg) {T : TV} {ls : List (List Int)} (hT : SSV T ls) (hn : ls.length ≤ 100) (hL : ∀ d ∈ ls, d.length ≤ 100) {N : Nat} (hN : N = ls.length * ls.length) : ∀ (r u : Nat) (H : Heap), u + r = N → RowH H 0 N (fun t => if t < u then G0 ls t else false) →
    ∃ e H', den pg l37_1 [(0, T), (3, .i .i64 (ls.length : Int)), (4, .sl 0 0 1 false N (some N)), (5, .i .i64 (u : Int))] H = some ⟨.exit 0, (0, T) :: (3, .i .i64 (ls.length : Int)) :: (4, .sl 0 0 1 false N (some N)) :: e, H'⟩ ∧ RowH H' 0 N (G0 ls)
  | 0, u, H, hu, h => by
    obtain rfl : u = N := by omega
    have hN6 : u ≤ 10000 := by rw [hN]; exact Nat.mul_le_mul hn hn
    have wm : wrapR .i64 ((ls.length : Int) * (ls.length : Int)) = .i .i64 (u : Int) := by rw [hN, ← Int.natCast_mul]; exact gXd2 (by omega)
    refine ⟨[(5, .i .i64 (u : Int)), (20, .b false)], H, ?_, h.congr fun t ht => by rw [if_pos ht]⟩
    clear h hN
    generalize (ls.length : Int) = M at *
    generalize (TV.sl 0 0 1 false u (some u)) = O at *
    generalize (u : Int) = U at *
    rw [l37_1, den_loop]
    simp (disch := omega) [b37_0, gX0, gX1, gX2, gX3, gX4, gX5, gX6, gX7, gX8, gX9, gXa, gXb, gXc, gXd, gXe, gXf, gXg, gXh, gXi, gXj, gXk, gXl, gXm, gXn, gXo, gXp, gXq, gXr, gXs, gXt, gXu, gXv, gXw, gXx, k_mv, gXy, gXz, gX01, gX11, gX21, gX31, gX41, gX51, gX61, gX71, gX81, gX91, gXa1, gXb1, gXc1, gXd1, gXe1, gXf1, gXg1, gXh1, gXi1, gXj1, gXk1, gXl1, gXm1, gXn1, gXo1, gXp1, gXq1, gXr1, gXs1, gXt1, gXu1, k_mn, k_mx, gXv1, gXw1, gXx1, gXy1, gXz1, gX02, gX12, gX22, gX32, gX42, gX52, gX62, gX72, Dn.setLast, Dn.getLast, evalO, mapO, Dn.get, putE, gX82, gX92, gXa2, gXb2, TV.one, TV.isAgg, Dn.part, gXc2, negb, at0, at1, at2, at3, at4, dT, dF, gXd2, Option.bind_some, Option.map_some, wm]
  | r + 1, u, H, hu, h => by
    have hN6 : N ≤ 10000 := by rw [hN]; exact Nat.mul_le_mul hn hn
    have hpos : 1 ≤ ls.length := by
      apply Classical.byContradiction
      intro h0
      have : ls.length = 0 := by omega
      rw [this] at hN; omega
    have hq : u / ls.length < ls.length := by rw [Nat.div_lt_iff_lt_mul (by omega)]; omega
    have hm : u % ls.length < ls.length := Nat.mod_lt _ (by omega)
    have wm : wrapR .i64 ((ls.length : Int) * (ls.length : Int)) = .i .i64 (N : Int) := by rw [hN, ← Int.natCast_mul]; exact gXd2 (by omega)
    have hqu : binI .quo (.i .i64 (u : Int)) (.i .i64 (ls.length : Int)) = some (.i .i64 ((u / ls.length : Nat) : Int)) := by
      have h0 : ¬ (ls.length : Int) = 0 := by omega
      have h2 : ((u : Int).tdiv (ls.length : Int)) = ((u / ls.length : Nat) : Int) := by simp [Int.tdiv]
      have h3 : binI .quo (.i .i64 (u : Int)) (.i .i64 (ls.length : Int)) = if (ls.length : Int) = 0 then none else some (wrapR .i64 ((u : Int).tdiv (ls.length : Int))) := by simp [binI]
      generalize u / ls.length = q at *
      rw [h3, if_neg h0, h2, gXd2 (by omega)]
    have hrm := b_remN (a := u) (x := ls.length) hpos
    obtain ⟨p, a, p1, p2, p3, p4⟩ := rowAt (pg := pg) hT (x := ((u / ls.length : Nat) : Int)) (Int.natCast_nonneg _) (Int.ofNat_lt.2 hq) H
    obtain ⟨q, b, q1, q2, q3, q4⟩ := rowAt (pg := pg) hT (x := ((u % ls.length : Nat) : Int)) (Int.natCast_nonneg _) (Int.ofNat_lt.2 hm) H
    have c30 := call30 (pg := pg) hF p3 q3 (hL _ p4) (hL _ q4) H
    have hg : bt (ls.getD (((u / ls.length : Nat) : Int)).toNat []) (ls.getD (((u % ls.length : Nat) : Int)).toNat []) = G0 ls u := rfl
    rw [hg] at c30
    have ix := RowH.ixN (pg := pg) H 0 (M := N) (t := u) (by omega)
    obtain ⟨H1, s1, s2, -, -⟩ := h.st (pg := pg) (t := u) (by omega) (G0 ls u)
    have hG : (fun v => if v = u then G0 ls u else if v < u then G0 ls v else false) = fun v : Nat => if v < u + 1 then G0 ls v else false := by
      funext v
      by_cases h1 : v = u
      · subst h1; rw [if_pos rfl, if_pos (by omega)]
      · rw [if_neg h1]
        by_cases h2 : v < u
        · rw [if_pos h2, if_pos (by omega)]
        · rw [if_neg h2, if_neg (by omega)]
    rw [hG] at s2
    obtain ⟨e, H', g1, g2⟩ := l37_1_all (pg := pg) hF hT hn hL hN r (u + 1) H1 (by omega) s2
    refine ⟨e, H', Eq.trans ?_ g1, g2⟩
    have w2 : wrapR .i64 ((u : Int) + 1) = .i .i64 ((u + 1 : Nat) : Int) := by rw [← Int.natCast_succ]; exact gXd2 (by omega)
    have dd : decide ((u : Int) < (N : Int)) = true := dT (by omega)
    clear h s2 hG g1 g2 hg p3 p4 q3 q4 hT hq hm hN hu
    generalize G0 ls u = Gv at *
    generalize ((u / ls.length : Nat) : Int) = Q1 at *
    generalize ((u % ls.length : Nat) : Int) = Q2 at *
    generalize (ls.length : Int) = M at *
    generalize (TV.sl 0 0 1 false N (some N)) = O at *
    generalize (TV.ref 0 u) = RR at *
    generalize ((u + 1 : Nat) : Int) = U2 at *
    generalize (u : Int) = U at *
    generalize (N : Int) = N at *
    rw [l37_1, den_loop]
    simp (disch := omega) [l37_1, b37_0, gX0, gX1, gX2, gX3, gX4, gX5, gX6, gX7, gX8, gX9, gXa, gXb, gXc, gXd, gXe, gXf, gXg, gXh, gXi, gXj, gXk, gXl, gXm, gXn, gXo, gXp, gXq, gXr, gXs, gXt, gXu, gXv, gXw, gXx, k_mv, gXy, gXz, gX01, gX11, gX21, gX31, gX41, gX51, gX61, gX71, gX81, gX91, gXa1, gXb1, gXc1, gXd1, gXe1, gXf1, gXg1, gXh1, gXi1, gXj1, gXk1, gXl1, gXm1, gXn1, gXo1, gXp1, gXq1, gXr1, gXs1, gXt1, gXu1, k_mn, k_mx, gXv1, gXw1, gXx1, gXy1, gXz1, gX02, gX12, gX22, gX32, gX42, gX52, gX62, gX72, Dn.setLast, Dn.getLast, evalO, mapO, Dn.get, putE, gX82, gX92, gXa2, gXb2, TV.one, TV.isAgg, Dn.part, gXc2, negb, at0, at1, at2, at3, at4, dT, dF, gXd2, Option.bind_some, Option.map_some, wm, dd, hqu, hrm, p1, p2, q1, q2, c30, ix, s1, w2]

theorem l37_3_all {pg : Pg} {n k i : Nat} (hn : n ≤ 100) (hk : k < n) (hi : i < n) : ∀ (r j : Nat) (G : Nat → Bool) (H : Heap), j + r = n → RowH H 0 (n * n) G →
    ∃ e H', den pg l37_3 [(3, .i .i64 (n : Int)), (4, .sl 0 0 1 false (n * n) (some (n * n))), (6, .i .i64 (k : Int)), (7, .i .i64 (i : Int)), (8, .i .i64 (j : Int))] H =
      some ⟨.exit 6, (3, .i .i64 (n : Int)) :: (4, .sl 0 0 1 false (n * n) (some (n * n))) :: (6, .i .i64 (k : Int)) :: (7, .i .i64 (i : Int)) :: e, H'⟩ ∧ RowH H' 0 (n * n) (wJ n k i r j G)
  | 0, j, G, H, hj, h => by
    obtain rfl : j = n := by omega
    refine ⟨[(8, .i .i64 (j : Int)), (51, .b false)], H, ?_, h⟩
    clear h
    generalize (TV.sl 0 0 1 false (j * j) (some (j * j))) = O at *
    generalize (j : Int) = J at *
    generalize (k : Int) = K at *
    generalize (i : Int) = I at *
    rw [l37_3, den_loop]
    simp (disch := omega) [b37_2, gX0, gX1, gX2, gX3, gX4, gX5, gX6, gX7, gX8, gX9, gXa, gXb, gXc, gXd, gXe, gXf, gXg, gXh, gXi, gXj, gXk, gXl, gXm, gXn, gXo, gXp, gXq, gXr, gXs, gXt, gXu, gXv, gXw, gXx, k_mv, gXy, gXz, gX01, gX11, gX21, gX31, gX41, gX51, gX61, gX71, gX81, gX91, gXa1, gXb1, gXc1, gXd1, gXe1, gXf1, gXg1, gXh1, gXi1, gXj1, gXk1, gXl1, gXm1, gXn1, gXo1, gXp1, gXq1, gXr1, gXs1, gXt1, gXu1, k_mn, k_mx, gXv1, gXw1, gXx1, gXy1, gXz1, gX02, gX12, gX22, gX32, gX42, gX52, gX62, gX72, Dn.setLast, Dn.getLast, evalO, mapO, Dn.get, putE, gX82, gX92, gXa2, gXb2, TV.one, TV.isAgg, Dn.part, gXc2, negb, at0, at1, at2, at3, at4, dT, dF, gXd2, Option.bind_some, Option.map_some]
  | r + 1, j, G, H, hj, h => by
    have hnn : n * n ≤ 10000 := Nat.mul_le_mul hn hn
    have b1 := flat_lt hi (show j < n by omega)
    have b2 := flat_lt hi hk
    have b3 := flat_lt hk (show j < n by omega)
    have w1 : wrapR .i64 ((i : Int) * (n : Int)) = .i .i64 ((i * n : Nat) : Int) := by rw [← Int.natCast_mul]; exact gXd2 (by omega)
    have w2 : wrapR .i64 ((k : Int) * (n : Int)) = .i .i64 ((k * n : Nat) : Int) := by rw [← Int.natCast_mul]; exact gXd2 (by omega)
    have w3 : wrapR .i64 (((i * n : Nat) : Int) + (j : Int)) = .i .i64 ((i * n + j : Nat) : Int) := by rw [← Int.natCast_add]; exact gXd2 (by omega)
    have w4 : wrapR .i64 (((i * n : Nat) : Int) + (k : Int)) = .i .i64 ((i * n + k : Nat) : Int) := by rw [← Int.natCast_add]; exact gXd2 (by omega)
    have w5 : wrapR .i64 (((k * n : Nat) : Int) + (j : Int)) = .i .i64 ((k * n + j : Nat) : Int) := by rw [← Int.natCast_add]; exact gXd2 (by omega)
    have w6 : wrapR .i64 ((j : Int) + 1) = .i .i64 ((j + 1 : Nat) : Int) := by rw [← Int.natCast_succ]; exact gXd2 (by omega)
    have dd : decide ((j : Int) < (n : Int)) = true := dT (by omega)
    have x1 := RowH.ixN (pg := pg) H 0 b1
    have x2 := RowH.ixN (pg := pg) H 0 b2
    have x3 := RowH.ixN (pg := pg) H 0 b3
    have y1 := h.ld (pg := pg) b1
    have y2 := h.ld (pg := pg) b2
    have y3 := h.ld (pg := pg) b3
    obtain ⟨H1, s1, s2, -, -⟩ := h.st (pg := pg) b1 (G (i * n + j) || (G (i * n + k) && G (k * n + j)))
    obtain ⟨e, H', g1, g2⟩ := l37_3_all (pg := pg) hn hk hi r (j + 1) (wU n k i j G) H1 (by omega) s2
    refine ⟨e, H', Eq.trans ?_ g1, g2⟩
    clear h s2 g1 g2 b1 b2 b3 hj
    generalize G (i * n + j) = B1 at *
    generalize G (i * n + k) = B2 at *
    generalize G (k * n + j) = B3 at *
    generalize TV.ref 0 (i * n + j) = R1 at *
    generalize TV.ref 0 (i * n + k) = R2 at *
    generalize TV.ref 0 (k * n + j) = R3 at *
    generalize ((i * n + j : Nat) : Int) = U1 at *
    generalize ((i * n + k : Nat) : Int) = U2 at *
    generalize ((k * n + j : Nat) : Int) = U3 at *
    generalize ((i * n : Nat) : Int) = V1 at *
    generalize ((k * n : Nat) : Int) = V2 at *
    generalize (TV.sl 0 0 1 false (n * n) (some (n * n))) = O at *
    generalize ((j + 1 : Nat) : Int) = J2 at *
    generalize (j : Int) = J at *
    generalize (k : Int) = K at *
    generalize (i : Int) = I at *
    generalize (n : Int) = N at *
    conv => lhs; rw [l37_3, den_loop]
    cases B1
    · cases B2
      · simp at s1
        simp (disch := omega) [l37_3, b37_2, gX0, gX1, gX2, gX3, gX4, gX5, gX6, gX7, gX8, gX9, gXa, gXb, gXc, gXd, gXe, gXf, gXg, gXh, gXi, gXj, gXk, gXl, gXm, gXn, gXo, gXp, gXq, gXr, gXs, gXt, gXu, gXv, gXw, gXx, k_mv, gXy, gXz, gX01, gX11, gX21, gX31, gX41, gX51, gX61, gX71, gX81, gX91, gXa1, gXb1, gXc1, gXd1, gXe1, gXf1, gXg1, gXh1, gXi1, gXj1, gXk1, gXl1, gXm1, gXn1, gXo1, gXp1, gXq1, gXr1, gXs1, gXt1, gXu1, k_mn, k_mx, gXv1, gXw1, gXx1, gXy1, gXz1, gX02, gX12, gX22, gX32, gX42, gX52, gX62, gX72, Dn.setLast, Dn.getLast, evalO, mapO, Dn.get, putE, gX82, gX92, gXa2, gXb2, TV.one, TV.isAgg, Dn.part, gXc2, negb, at0, at1, at2, at3, at4, dT, dF, gXd2, Option.bind_some, Option.map_some, dd, w1, w2, w3, w4, w5, w6, x1, x2, x3, y1, y2, y3, s1]
      · cases B3
        · simp at s1
          simp (disch := omega) [l37_3, b37_2, gX0, gX1, gX2, gX3, gX4, gX5, gX6, gX7, gX8, gX9, gXa, gXb, gXc, gXd, gXe, gXf, gXg, gXh, gXi, gXj, gXk, gXl, gXm, gXn, gXo, gXp, gXq, gXr, gXs, gXt, gXu, gXv, gXw, gXx, k_mv, gXy, gXz, gX01, gX11, gX21, gX31, gX41, gX51, gX61, gX71, gX81, gX91, gXa1, gXb1, gXc1, gXd1, gXe1, gXf1, gXg1, gXh1, gXi1, gXj1, gXk1, gXl1, gXm1, gXn1, gXo1, gXp1, gXq1, gXr1, gXs1, gXt1, gXu1, k_mn, k_mx, gXv1, gXw1, gXx1, gXy1, gXz1, gX02, gX12, gX22, gX32, gX42, gX52, gX62, gX72, Dn.setLast, Dn.getLast, evalO, mapO, Dn.get, putE, gX82, gX92, gXa2, gXb2, TV.one, TV.isAgg, Dn.part, gXc2, negb, at0, at1, at2, at3, at4, dT, dF, gXd2, Option.bind_some, Option.map_some, dd, w1, w2, w3, w4, w5, w6, x1, x2, x3, y1, y2, y3, s1]
        · simp at s1
          simp (disch := omega) [l37_3, b37_2, gX0, gX1, gX2, gX3, gX4, gX5, gX6, gX7, gX8, gX9, gXa, gXb, gXc, gXd, gXe, gXf, gXg, gXh, gXi, gXj, gXk, gXl, gXm, gXn, gXo, gXp, gXq, gXr, gXs, gXt, gXu, gXv, gXw, gXx, k_mv, gXy, gXz, gX01, gX11, gX21, gX31, gX41, gX51, gX61, gX71, gX81, gX91, gXa1, gXb1, gXc1, gXd1, gXe1, gXf1, gXg1, gXh1, gXi1, gXj1, gXk1, gXl1, gXm1, gXn1, gXo1, gXp1, gXq1, gXr1, gXs1, gXt1, gXu1, k_mn, k_mx, gXv1, gXw1, gXx1, gXy1, gXz1, gX02, gX12, gX22, gX32, gX42, gX52, gX62, gX72, Dn.setLast, Dn.getLast, evalO, mapO, Dn.get, putE, gX82, gX92, gXa2, gXb2, TV.one, TV.isAgg, Dn.part, gXc2, negb, at0, at1, at2, at3, at4, dT, dF, gXd2, Option.bind_some, Option.map_some, dd, w1, w2, w3, w4, w5, w6, x1, x2, x3, y1, y2, y3, s1]
    · simp at s1
      simp (disch := omega) [l37_3, b37_2, gX0, gX1, gX2, gX3, gX4, gX5, gX6, gX7, gX8, gX9, gXa, gXb, gXc, gXd, gXe, gXf, gXg, gXh, gXi, gXj, gXk, gXl, gXm, gXn, gXo, gXp, gXq, gXr, gXs, gXt, gXu, gXv, gXw, gXx, k_mv, gXy, gXz, gX01, gX11, gX21, gX31, gX41, gX51, gX61, gX71, gX81, gX91, gXa1, gXb1, gXc1, gXd1, gXe1, gXf1, gXg1, gXh1, gXi1, gXj1, gXk1, gXl1, gXm1, gXn1, gXo1, gXp1, gXq1, gXr1, gXs1, gXt1, gXu1, k_mn, k_mx, gXv1, gXw1, gXx1, gXy1, gXz1, gX02, gX12, gX22, gX32, gX42, gX52, gX62, gX72, Dn.setLast, Dn.getLast, evalO, mapO, Dn.get, putE, gX82, gX92, gXa2, gXb2, TV.one, TV.isAgg, Dn.part, gXc2, negb, at0, at1, at2, at3, at4, dT, dF, gXd2, Option.bind_some, Option.map_some, dd, w1, w2, w3, w4, w5, w6, x1, x2, x3, y1, y2, y3, s1]

theorem l37_5_all {pg : Pg} {n k : Nat} (hn : n ≤ 100) (hk : k < n) : ∀ (r i : Nat) (G : Nat → Bool) (H : Heap), i + r = n → RowH H 0 (n * n) G →
    ∃ e H', den pg l37_5 [(3, .i .i64 (n : Int)), (4, .sl 0 0 1 false (n * n) (some (n * n))), (6, .i .i64 (k : Int)), (7, .i .i64 (i : Int))] H =
      some ⟨.exit 4, (3, .i .i64 (n : Int)) :: (4, .sl 0 0 1 false (n * n) (some (n * n))) :: (6, .i .i64 (k : Int)) :: e, H'⟩ ∧ RowH H' 0 (n * n) (wI n k r i G)
  | 0, i, G, H, hi, h => by
    obtain rfl : i = n := by omega
    refine ⟨[(7, .i .i64 (i : Int)), (46, .b false)], H, ?_, h⟩
    clear h
    generalize (TV.sl 0 0 1 false (i * i) (some (i * i))) = O at *
    generalize (i : Int) = I at *
    generalize (k : Int) = K at *
    rw [l37_5, den_loop]
    simp (disch := omega) [b37_4, gX0, gX1, gX2, gX3, gX4, gX5, gX6, gX7, gX8, gX9, gXa, gXb, gXc, gXd, gXe, gXf, gXg, gXh, gXi, gXj, gXk, gXl, gXm, gXn, gXo, gXp, gXq, gXr, gXs, gXt, gXu, gXv, gXw, gXx, k_mv, gXy, gXz, gX01, gX11, gX21, gX31, gX41, gX51, gX61, gX71, gX81, gX91, gXa1, gXb1, gXc1, gXd1, gXe1, gXf1, gXg1, gXh1, gXi1, gXj1, gXk1, gXl1, gXm1, gXn1, gXo1, gXp1, gXq1, gXr1, gXs1, gXt1, gXu1, k_mn, k_mx, gXv1, gXw1, gXx1, gXy1, gXz1, gX02, gX12, gX22, gX32, gX42, gX52, gX62, gX72, Dn.setLast, Dn.getLast, evalO, mapO, Dn.get, putE, gX82, gX92, gXa2, gXb2, TV.one, TV.isAgg, Dn.part, gXc2, negb, at0, at1, at2, at3, at4, dT, dF, gXd2, Option.bind_some, Option.map_some]
  | r + 1, i, G, H, hi, h => by
    obtain ⟨e0, H0, q0, q1⟩ := l37_3_all (pg := pg) hn hk (show i < n by omega) n 0 G H (by omega) h
    obtain ⟨e, H', g1, g2⟩ := l37_5_all (pg := pg) hn hk r (i + 1) _ H0 (by omega) q1
    refine ⟨e, H', Eq.trans ?_ g1, g2⟩
    have w6 : wrapR .i64 ((i : Int) + 1) = .i .i64 ((i + 1 : Nat) : Int) := by rw [← Int.natCast_succ]; exact gXd2 (by omega)
    have dd : decide ((i : Int) < (n : Int)) = true := dT (by omega)
    simp only [Int.natCast_zero] at q0
    clear h q1 g1 g2 hi
    generalize (TV.sl 0 0 1 false (n * n) (some (n * n))) = O at *
    generalize ((i + 1 : Nat) : Int) = I2 at *
    generalize (i : Int) = I at *
    generalize (k : Int) = K at *
    generalize (n : Int) = N at *
    rw [l37_5, den_loop]
    simp (disch := omega) [l37_5, b37_4, gX0, gX1, gX2, gX3, gX4, gX5, gX6, gX7, gX8, gX9, gXa, gXb, gXc, gXd, gXe, gXf, gXg, gXh, gXi, gXj, gXk, gXl, gXm, gXn, gXo, gXp, gXq, gXr, gXs, gXt, gXu, gXv, gXw, gXx, k_mv, gXy, gXz, gX01, gX11, gX21, gX31, gX41, gX51, gX61, gX71, gX81, gX91, gXa1, gXb1, gXc1, gXd1, gXe1, gXf1, gXg1, gXh1, gXi1, gXj1, gXk1, gXl1, gXm1, gXn1, gXo1, gXp1, gXq1, gXr1, gXs1, gXt1, gXu1, k_mn, k_mx, gXv1, gXw1, gXx1, gXy1, gXz1, gX02, gX12, gX22, gX32, gX42, gX52, gX62, gX72, Dn.setLast, Dn.getLast, evalO, mapO, Dn.get, putE, gX82, gX92, gXa2, gXb2, TV.one, TV.isAgg, Dn.part, gXc2, negb, at0, at1, at2, at3, at4, dT, dF, gXd2, Option.bind_some, Option.map_some, dd, go_denK (c := l37_3) rfl, q0, w6]

theorem l37_7_all {pg : Pg} {n : Nat} (hn : n ≤ 100) : ∀ (r k : Nat) (G : Nat → Bool) (H : Heap), k + r = n → RowH H 0 (n * n) G →
    ∃ e H', den pg l37_7 [(3, .i .i64 (n : Int)), (4, .sl 0 0 1 false (n * n) (some (n * n))), (6, .i .i64 (k : Int))] H =
      some ⟨.exit 2, (3, .i .i64 (n : Int)) :: (4, .sl 0 0 1 false (n * n) (some (n * n))) :: e, H'⟩ ∧ RowH H' 0 (n * n) (wK n r k G)
  | 0, k, G, H, hk, h => by
    obtain rfl : k = n := by omega
    refine ⟨[(6, .i .i64 (k : Int)), (41, .b false)], H, ?_, h⟩
    clear h
    generalize (TV.sl 0 0 1 false (k * k) (some (k * k))) = O at *
    generalize (k : Int) = K at *
    rw [l37_7, den_loop]
    simp (disch := omega) [b37_6, gX0, gX1, gX2, gX3, gX4, gX5, gX6, gX7, gX8, gX9, gXa, gXb, gXc, gXd, gXe, gXf, gXg, gXh, gXi, gXj, gXk, gXl, gXm, gXn, gXo, gXp, gXq, gXr, gXs, gXt, gXu, gXv, gXw, gXx, k_mv, gXy, gXz, gX01, gX11, gX21, gX31, gX41, gX51, gX61, gX71, gX81, gX91, gXa1, gXb1, gXc1, gXd1, gXe1, gXf1, gXg1, gXh1, gXi1, gXj1, gXk1, gXl1, gXm1, gXn1, gXo1, gXp1, gXq1, gXr1, gXs1, gXt1, gXu1, k_mn, k_mx, gXv1, gXw1, gXx1, gXy1, gXz1, gX02, gX12, gX22, gX32, gX42, gX52, gX62, gX72, Dn.setLast, Dn.getLast, evalO, mapO, Dn.get, putE, gX82, gX92, gXa2, gXb2, TV.one, TV.isAgg, Dn.part, gXc2, negb, at0, at1, at2, at3, at4, dT, dF, gXd2, Option.bind_some, Option.map_some]
  | r + 1, k, G, H, hk, h => by
    obtain ⟨e0, H0, q0, q1⟩ := l37_5_all (pg := pg) hn (show k < n by omega) n 0 G H (by omega) h
    obtain ⟨e, H', g1, g2⟩ := l37_7_all (pg := pg) hn r (k + 1) _ H0 (by omega) q1
    refine ⟨e, H', Eq.trans ?_ g1, g2⟩
    have w6 : wrapR .i64 ((k : Int) + 1) = .i .i64 ((k + 1 : Nat) : Int) := by rw [← Int.natCast_succ]; exact gXd2 (by omega)
    have dd : decide ((k : Int) < (n : Int)) = true := dT (by omega)
    simp only [Int.natCast_zero] at q0
    clear h q1 g1 g2 hk
    generalize (TV.sl 0 0 1 false (n * n) (some (n * n))) = O at *
    generalize ((k + 1 : Nat) : Int) = K2 at *
    generalize (k : Int) = K at *
    generalize (n : Int) = N at *
    rw [l37_7, den_loop]
    simp (disch := omega) [l37_7, b37_6, gX0, gX1, gX2, gX3, gX4, gX5, gX6, gX7, gX8, gX9, gXa, gXb, gXc, gXd, gXe, gXf, gXg, gXh, gXi, gXj, gXk, gXl, gXm, gXn, gXo, gXp, gXq, gXr, gXs, gXt, gXu, gXv, gXw, gXx, k_mv, gXy, gXz, gX01, gX11, gX21, gX31, gX41, gX51, gX61, gX71, gX81, gX91, gXa1, gXb1, gXc1, gXd1, gXe1, gXf1, gXg1, gXh1, gXi1, gXj1, gXk1, gXl1, gXm1, gXn1, gXo1, gXp1, gXq1, gXr1, gXs1, gXt1, gXu1, k_mn, k_mx, gXv1, gXw1, gXx1, gXy1, gXz1, gX02, gX12, gX22, gX32, gX42, gX52, gX62, gX72, Dn.setLast, Dn.getLast, evalO, mapO, Dn.get, putE, gX82, gX92, gXa2, gXb2, TV.one, TV.isAgg, Dn.part, gXc2, negb, at0, at1, at2, at3, at4, dT, dF, gXd2, Option.bind_some, Option.map_some, dd, go_denK (c := l37_5) rfl, q0, w6]

theorem l37_9_all {pg : Pg} {n : Nat} (hn : n ≤ 100) {G : Nat → Bool} {H : Heap} (h : RowH H 0 (n * n) G) : ∀ (r i : Nat), i + r = n →
    ((∃ j, i ≤ j ∧ j < n ∧ G (j * n + j) = true) → den pg l37_9 [(3, .i .i64 (n : Int)), (4, .sl 0 0 1 false (n * n) (some (n * n))), (9, .i .i64 (i : Int))] H = some ⟨.ret, [(2, .b true)], H⟩) ∧
    ((∀ j, i ≤ j → j < n → G (j * n + j) = false) → ∃ e, den pg l37_9 [(3, .i .i64 (n : Int)), (4, .sl 0 0 1 false (n * n) (some (n * n))), (9, .i .i64 (i : Int))] H = some ⟨.exit 8, e, H⟩)
  | 0, i, hi => by
    obtain rfl : i = n := by omega
    refine ⟨fun ⟨j, h1, h2, _⟩ => by omega, fun _ => ⟨[(3, .i .i64 (i : Int)), (4, .sl 0 0 1 false (i * i) (some (i * i))), (9, .i .i64 (i : Int)), (91, .b false)], ?_⟩⟩
    clear h
    generalize (TV.sl 0 0 1 false (i * i) (some (i * i))) = O at *
    generalize (i : Int) = I at *
    rw [l37_9, den_loop]
    simp (disch := omega) [b37_8, gX0, gX1, gX2, gX3, gX4, gX5, gX6, gX7, gX8, gX9, gXa, gXb, gXc, gXd, gXe, gXf, gXg, gXh, gXi, gXj, gXk, gXl, gXm, gXn, gXo, gXp, gXq, gXr, gXs, gXt, gXu, gXv, gXw, gXx, k_mv, gXy, gXz, gX01, gX11, gX21, gX31, gX41, gX51, gX61, gX71, gX81, gX91, gXa1, gXb1, gXc1, gXd1, gXe1, gXf1, gXg1, gXh1, gXi1, gXj1, gXk1, gXl1, gXm1, gXn1, gXo1, gXp1, gXq1, gXr1, gXs1, gXt1, gXu1, k_mn, k_mx, gXv1, gXw1, gXx1, gXy1, gXz1, gX02, gX12, gX22, gX32, gX42, gX52, gX62, gX72, Dn.setLast, Dn.getLast, evalO, mapO, Dn.get, putE, gX82, gX92, gXa2, gXb2, TV.one, TV.isAgg, Dn.part, gXc2, negb, at0, at1, at2, at3, at4, dT, dF, gXd2, Option.bind_some, Option.map_some]
  | r + 1, i, hi => by
    have hnn : n * n ≤ 10000 := Nat.mul_le_mul hn hn
    have b1 := flat_lt (show i < n by omega) (show i < n by omega)
    have w1 : wrapR .i64 ((i : Int) * (n : Int)) = .i .i64 ((i * n : Nat) : Int) := by rw [← Int.natCast_mul]; exact gXd2 (by omega)
    have w3 : wrapR .i64 (((i * n : Nat) : Int) + (i : Int)) = .i .i64 ((i * n + i : Nat) : Int) := by rw [← Int.natCast_add]; exact gXd2 (by omega)
    have w6 : wrapR .i64 ((i : Int) + 1) = .i .i64 ((i + 1 : Nat) : Int) := by rw [← Int.natCast_succ]; exact gXd2 (by omega)
    have dd : decide ((i : Int) < (n : Int)) = true := dT (by omega)
    have x1 := RowH.ixN (pg := pg) H 0 b1
    have y1 := h.ld (pg := pg) b1
    have ih := l37_9_all (pg := pg) hn h r (i + 1) (by omega)
    cases hg : G (i * n + i) with
    | true =>
      rw [hg] at y1
      refine ⟨fun _ => ?_, fun hall => by rw [hall i (Nat.le_refl _) (by omega)] at hg; cases hg⟩
      clear h ih hg hi b1
      generalize TV.ref 0 (i * n + i) = R1 at *
      generalize ((i * n + i : Nat) : Int) = U1 at *
      generalize ((i * n : Nat) : Int) = V1 at *
      generalize (TV.sl 0 0 1 false (n * n) (some (n * n))) = O at *
      generalize (i : Int) = I at *
      generalize (n : Int) = N at *
      rw [l37_9, den_loop]
      simp (disch := omega) [l37_9, b37_8, gX0, gX1, gX2, gX3, gX4, gX5, gX6, gX7, gX8, gX9, gXa, gXb, gXc, gXd, gXe, gXf, gXg, gXh, gXi, gXj, gXk, gXl, gXm, gXn, gXo, gXp, gXq, gXr, gXs, gXt, gXu, gXv, gXw, gXx, k_mv, gXy, gXz, gX01, gX11, gX21, gX31, gX41, gX51, gX61, gX71, gX81, gX91, gXa1, gXb1, gXc1, gXd1, gXe1, gXf1, gXg1, gXh1, gXi1, gXj1, gXk1, gXl1, gXm1, gXn1, gXo1, gXp1, gXq1, gXr1, gXs1, gXt1, gXu1, k_mn, k_mx, gXv1, gXw1, gXx1, gXy1, gXz1, gX02, gX12, gX22, gX32, gX42, gX52, gX62, gX72, Dn.setLast, Dn.getLast, evalO, mapO, Dn.get, putE, gX82, gX92, gXa2, gXb2, TV.one, TV.isAgg, Dn.part, gXc2, negb, at0, at1, at2, at3, at4, dT, dF, gXd2, Option.bind_some, Option.map_some, dd, w1, w3, x1, y1]
    | false =>
      rw [hg] at y1
      have st : den pg l37_9 [(3, .i .i64 (n : Int)), (4, .sl 0 0 1 false (n * n) (some (n * n))), (9, .i .i64 (i : Int))] H = den pg l37_9 [(3, .i .i64 (n : Int)), (4, .sl 0 0 1 false (n * n) (some (n * n))), (9, .i .i64 ((i + 1 : Nat) : Int))] H := by
        clear h ih hg hi b1
        generalize TV.ref 0 (i * n + i) = R1 at *
        generalize ((i * n + i : Nat) : Int) = U1 at *
        generalize ((i * n : Nat) : Int) = V1 at *
        generalize (TV.sl 0 0 1 false (n * n) (some (n * n))) = O at *
        generalize ((i + 1 : Nat) : Int) = I2 at *
        generalize (i : Int) = I at *
        generalize (n : Int) = N at *
        conv => lhs; rw [l37_9, den_loop]
        simp (disch := omega) [l37_9, b37_8, gX0, gX1, gX2, gX3, gX4, gX5, gX6, gX7, gX8, gX9, gXa, gXb, gXc, gXd, gXe, gXf, gXg, gXh, gXi, gXj, gXk, gXl, gXm, gXn, gXo, gXp, gXq, gXr, gXs, gXt, gXu, gXv, gXw, gXx, k_mv, gXy, gXz, gX01, gX11, gX21, gX31, gX41, gX51, gX61, gX71, gX81, gX91, gXa1, gXb1, gXc1, gXd1, gXe1, gXf1, gXg1, gXh1, gXi1, gXj1, gXk1, gXl1, gXm1, gXn1, gXo1, gXp1, gXq1, gXr1, gXs1, gXt1, gXu1, k_mn, k_mx, gXv1, gXw1, gXx1, gXy1, gXz1, gX02, gX12, gX22, gX32, gX42, gX52, gX62, gX72, Dn.setLast, Dn.getLast, evalO, mapO, Dn.get, putE, gX82, gX92, gXa2, gXb2, TV.one, TV.isAgg, Dn.part, gXc2, negb, at0, at1, at2, at3, at4, dT, dF, gXd2, Option.bind_some, Option.map_some, dd, w1, w3, w6, x1, y1]
      rw [st]
      refine ⟨fun ⟨j, h1, h2, h3⟩ => ih.1 ⟨j, ?_, h2, h3⟩, fun hall => ih.2 fun j h1 h2 => hall j (by omega) h2⟩
      apply Classical.byContradiction
      intro hlt
      have : j = i := by omega
      rw [this, hg] at h3
      cases h3

theorem fn37 {pg : Pg} (hF : Free pg) {T : TV} {ls : List (List Int)} (hT : SSV T ls) (hn : ls.length ≤ 100) (hL : ∀ d ∈ ls, d.length ≤ 100) : PFn pg 37 [T] (.b (hasR ls)) := by
  have hnn : ls.length * ls.length ≤ 10000 := Nat.mul_le_mul hn hn
  obtain ⟨H1, m1, m2, -⟩ := RowH.alloc (pg := pg) [] (M := ls.length * ls.length) (by omega)
  obtain ⟨e1, H2, q1, q2⟩ := l37_1_all (pg := pg) hF hT hn hL rfl (ls.length * ls.length) 0 H1 (by omega) (m2.congr fun t _ => by rw [if_neg (by omega)])
  obtain ⟨e2, H3, q3, q4⟩ := l37_7_all (pg := pg) hn ls.length 0 (G0 ls) H2 (by omega) q2
  obtain ⟨q5, q6⟩ := l37_9_all (pg := pg) hn q4 ls.length 0 (by omega)
  have lt := lnS hT
  have wm : wrapR .i64 ((ls.length : Int) * (ls.length : Int)) = .i .i64 ((ls.length * ls.length : Nat) : Int) := by rw [← Int.natCast_mul]; exact gXd2 (by omega)
  simp only [Int.natCast_zero, List.length_nil] at q1 q3 q5 q6 m1
  refine .of1 (x := .ret) (e := [(2, .b (hasR ls))]) (H' := H3) (hF.S _ _) (d := d37) (by rw [hF.F]; rfl) rfl ?_ (.inl rfl) rfl (by simp [sn_i, sn_b, gXe2, gXf2, gXg2, gXh2, gXi2, gXj2, gXk2, gXl2, gXm2, gXn2, gXo2, gXp2, mapO, elems])
  cases hh : hasR ls with
  | true =>
    have q := q5 (by
      unfold hasR at hh
      rw [List.any_eq_true] at hh
      obtain ⟨i, hi, hg⟩ := hh
      exact ⟨i, Nat.zero_le _, List.mem_range.1 hi, hg⟩)
    clear q5 q6 q2 q4 m2 hh hT hnn
    generalize (TV.sl 0 0 1 false (ls.length * ls.length) (some (ls.length * ls.length))) = O at *
    generalize ((ls.length * ls.length : Nat) : Int) = NN at *
    generalize (ls.length : Int) = N at *
    simp (disch := omega) [d37, c37, zipE, gX0, gX1, gX2, gX3, gX4, gX5, gX6, gX7, gX8, gX9, gXa, gXb, gXc, gXd, gXe, gXf, gXg, gXh, gXi, gXj, gXk, gXl, gXm, gXn, gXo, gXp, gXq, gXr, gXs, gXt, gXu, gXv, gXw, gXx, k_mv, gXy, gXz, gX01, gX11, gX21, gX31, gX41, gX51, gX61, gX71, gX81, gX91, gXa1, gXb1, gXc1, gXd1, gXe1, gXf1, gXg1, gXh1, gXi1, gXj1, gXk1, gXl1, gXm1, gXn1, gXo1, gXp1, gXq1, gXr1, gXs1, gXt1, gXu1, k_mn, k_mx, gXv1, gXw1, gXx1, gXy1, gXz1, gX02, gX12, gX22, gX32, gX42, gX52, gX62, gX72, Dn.setLast, Dn.getLast, evalO, mapO, Dn.get, putE, gX82, gX92, gXa2, gXb2, TV.one, TV.isAgg, Dn.part, gXc2, negb, at0, at1, at2, at3, at4, dT, dF, gXd2, Option.bind_some, Option.map_some, lt, wm, m1, go_denK (c := l37_1) rfl, q1, go_denK (c := l37_7) rfl, q3, go_denK (c := l37_9) rfl, q]
  | false =>
    obtain ⟨e, q⟩ := q6 (fun j _ hj => by
      unfold hasR at hh
      rw [List.any_eq_false] at hh
      have := hh j (List.mem_range.2 hj)
      simpa using this)
    clear q5 q6 q2 q4 m2 hh hT hnn
    generalize (TV.sl 0 0 1 false (ls.length * ls.length) (some (ls.length * ls.length))) = O at *
    generalize ((ls.length * ls.length : Nat) : Int) = NN at *
    generalize (ls.length : Int) = N at *
    simp (disch := omega) [d37, c37, zipE, gX0, gX1, gX2, gX3, gX4, gX5, gX6, gX7, gX8, gX9, gXa, gXb, gXc, gXd, gXe, gXf, gXg, gXh, gXi, gXj, gXk, gXl, gXm, gXn, gXo, gXp, gXq, gXr, gXs, gXt, gXu, gXv, gXw, gXx, k_mv, gXy, gXz, gX01, gX11, gX21, gX31, gX41, gX51, gX61, gX71, gX81, gX91, gXa1, gXb1, gXc1, gXd1, gXe1, gXf1, gXg1, gXh1, gXi1, gXj1, gXk1, gXl1, gXm1, gXn1, gXo1, gXp1, gXq1, gXr1, gXs1, gXt1, gXu1, k_mn, k_mx, gXv1, gXw1, gXx1, gXy1, gXz1, gX02, gX12, gX22, gX32, gX42, gX52, gX62, gX72, Dn.setLast, Dn.getLast, evalO, mapO, Dn.get, putE, gX82, gX92, gXa2, gXb2, TV.one, TV.isAgg, Dn.part, gXc2, negb, at0, at1, at2, at3, at4, dT, dF, gXd2, Option.bind_some, Option.map_some, lt, wm, m1, go_denK (c := l37_1) rfl, q1, go_denK (c := l37_7) rfl, q3, go_denK (c := l37_9) rfl, q]

end Go.Proofs.Try.Dn

