/-
  Dice: de Bruijn's law run.
-/
import Derived.Test.YtijeefncmgjlpaaTJ
import Derived.Test.YtijeefncmgjlpaaR16
set_option linter.unusedSimpArgs false
set_option linter.unusedVariables false

set_option maxHeartbeats 4000000
set_option maxRecDepth 100000
namespace Go.Proofs.Try.Dn
open Go.Dn

theorem even_mem {n m : Nat} (hn : 1 ≤ n ∧ n ≤ 8) (hm : 1 ≤ m ∧ m ≤ 8) (p : PL) : p ∈ evenL n m ↔ DieL 60 p.1 ∧ DieL 60 p.2 ∧ p.1[0]? = some 0 ∧ p.2[0]? = some 0 ∧ (∀ j, wn [p.1, p.2] j = wtI (fun _ => 1) (n * m) j) ∧ p.1.length = n ∧ p.2.length = m := by
  have hN1 : 1 ≤ n * m := Nat.mul_le_mul hn.1 hm.1
  unfold evenL
  refine pairs_mem (G := fun _ => 1) (M := n * m) hn hm (by omega) (by omega) (fun j => ?_) (by unfold oneM; rw [if_pos (by omega)]; simp) p
  unfold oneM wtI
  split <;> rfl

theorem even_swap {n m : Nat} (hn : 1 ≤ n ∧ n ≤ 8) (hm : 1 ≤ m ∧ m ≤ 8) {p : PL} (hp : p ∈ evenL n m) : (p.2, p.1) ∈ evenL m n := by
  obtain ⟨k1, k2, k3, k4, k5, k6, k7⟩ := (even_mem hn hm p).1 hp
  refine (even_mem hm hn (p.2, p.1)).2 ⟨k2, k1, k4, k3, fun j => ?_, k7, k6⟩
  have : wn [p.2, p.1] = wn [p.1, p.2] := wn_perm (List.Perm.swap _ _ _)
  show wn [p.2, p.1] j = _
  rw [this, k5, Nat.mul_comm]

def onesQ (N : Nat) : List (Int × Int) := (List.range N).map fun (k : Nat) => ((k : Int), (1 : Int))

theorem onesQ_at {N k : Nat} (h : k < N) : (onesQ N)[k]? = some ((k : Int), 1) := by
  unfold onesQ; rw [List.getElem?_map, List.getElem?_range h]; rfl
theorem onesQ_len (N : Nat) : (onesQ N).length = N := by simp [onesQ]

theorem sums_even {n m : Nat} (hn : 1 ≤ n ∧ n ≤ 8) (hm : 1 ≤ m ∧ m ≤ 8) {p : PL} (hp : p ∈ evenL n m) : sumsL [p.1, p.2] = onesQ (n * m) ∧ mxS [p.1, p.2] = n * m := by
  obtain ⟨k1, k2, k3, k4, k5, k6, k7⟩ := (even_mem hn hm p).1 hp
  have hN1 : 1 ≤ n * m := Nat.mul_le_mul hn.1 hm.1
  have hD2 : ∀ x ∈ [p.1, p.2], DieL 60 x := fun x hx => by simp at hx; rcases hx with rfl | rfl <;> assumption
  have hin : ∀ j, wn [p.1, p.2] j ≠ 0 → 0 ≤ j ∧ j < ((n * m : Nat) : Int) := fun j hj => by
    rw [k5] at hj
    unfold wtI at hj
    split at hj
    · assumption
    · exact absurd rfl hj
  have hone : ∀ i, i < n * m → wn [p.1, p.2] (i : Int) = 1 := fun i hi => by
    rw [k5]; unfold wtI; rw [if_pos (by omega)]
  constructor
  · rw [← sums_of (by simp) hD2 (sumsE_cm (ls := [p.1, p.2]) (N := n * m) hin), sumsE_ent]
    have key : ∀ N, N ≤ n * m → sumsN [p.1, p.2] N = onesQ N := by
      intro N
      induction N with
      | zero => intro _; rfl
      | succ N ih =>
        intro h
        rw [sumsN_step, ih (by omega), hone N (by omega), if_neg (by omega)]
        unfold onesQ
        rw [List.range_succ, List.map_append]; rfl
    exact key _ (Nat.le_refl _)
  · have h1 := hin _ (wn_top _ rfl hD2)
    have h2 := wn_mx hD2 2 (by simp) ((n * m - 1 : Nat) : Int) (by
      show wn [p.1, p.2] _ ≠ 0
      rw [hone _ (by omega)]; decide)
    have h3 : (((n * m - 1 : Nat) : Int)) < (mxS [p.1, p.2] : Int) := h2.2
    omega

theorem mxS_two (a b : List Int) : mxS [a, b] = 1 + ((a.getLastD 0).toNat + (b.getLastD 0).toNat) := by
  unfold mxS; simp

theorem l12_1_all {pg : Pg} {A0 A1 A5 A7 A11 A12 A13 : TV} {N : Nat} (hN : N ≤ 1000) {H : Heap} : ∀ (r k : Nat), k + r = N →
    ∃ e, den pg l12_1 [(0, A0), (1, A1), (5, A5), (7, A7), (11, A11), (12, A12), (13, A13), (14, elQ.lt false (onesQ N)), (16, .i .i64 (k : Int))] H = some ⟨.exit 2, (0, A0) :: (1, A1) :: (5, A5) :: (7, A7) :: (11, A11) :: (12, A12) :: (13, A13) :: e, H⟩
  | 0, k, hk => by
    obtain rfl : k = N := by omega
    have ln := lnE elQ (onesQ k)
    rw [onesQ_len] at ln
    refine ⟨[(14, elQ.lt false (onesQ k)), (16, .i .i64 (k : Int)), (148, .b false)], ?_⟩
    generalize elQ.lt false (onesQ k) = S at *
    generalize (k : Int) = K at *
    rw [l12_1, den_loop]
    simp (disch := omega) [b12_0, gX0, gX1, gX2, gX3, gX4, gX5, gX6, gX7, gX8, gX9, gXa, gXb, gXc, gXd, gXe, gXf, gXg, gXh, gXi, gXj, gXk, gXl, gXm, gXn, gXo, gXp, gXq, gXr, gXs, gXt, gXu, gXv, gXw, gXx, k_mv, gXy, gXz, gX01, gX11, gX21, gX31, gX41, gX51, gX61, gX71, gX81, gX91, gXa1, gXb1, gXc1, gXd1, gXe1, gXf1, gXg1, gXh1, gXi1, gXj1, gXk1, gXl1, gXm1, gXn1, gXo1, gXp1, gXq1, gXr1, gXs1, gXt1, gXu1, k_mn, k_mx, gXv1, gXw1, gXx1, gXy1, gXz1, gX02, gX12, gX22, gX32, gX42, gX52, gX62, gX72, Dn.setLast, Dn.getLast, evalO, mapO, Dn.get, putE, gX82, gX92, gXa2, gXb2, TV.one, TV.isAgg, Dn.part, gXc2, negb, at0, at1, at2, at3, at4, dT, dF, gXd2, Option.bind_some, Option.map_some, ln]
  | r + 1, k, hk => by
    have ln := lnE elQ (onesQ N)
    rw [onesQ_len] at ln
    obtain ⟨p, p1, p2⟩ := ixQ (pg := pg) (H := H) (onesQ_at (N := N) (k := k) (by omega))
    have eq := eqA2 (pg := pg) (k : Int) 1 H
    have bl : dkc pg (den pg) (.build [.i .i64 0, .i .i64 0] [(0, 1), (1, 1)]) [.i .i64 (k : Int), .i .i64 1] H = some (.agg [.i .i64 (k : Int), .i .i64 1], H) := by
      show dk (.build [.i .i64 0, .i .i64 0] [(0, 1), (1, 1)]) [.i .i64 (k : Int), .i .i64 1] H = _
      simp [dk, fillP, TV.cells, TV.one, put2]
    have w2 : wrapR .i64 ((k : Int) + 1) = .i .i64 ((k + 1 : Nat) : Int) := by rw [← Int.natCast_succ]; exact gXd2 (by omega)
    have dd : decide ((k : Int) < (N : Int)) = true := dT (by omega)
    obtain ⟨e, r1⟩ := l12_1_all (pg := pg) (A0 := A0) (A1 := A1) (A5 := A5) (A7 := A7) (A11 := A11) (A12 := A12) (A13 := A13) hN (H := H) r (k + 1) (by omega)
    refine ⟨e, Eq.trans ?_ r1⟩
    dsimp only at p2
    generalize TV.agg [.i .i64 (k : Int), .i .i64 1] = V at *
    generalize elQ.lt false (onesQ N) = S at *
    generalize ((k + 1 : Nat) : Int) = K2 at *
    generalize (k : Int) = K at *
    generalize (N : Int) = M at *
    rw [l12_1, den_loop]
    simp (disch := omega) [l12_1, b12_0, gX0, gX1, gX2, gX3, gX4, gX5, gX6, gX7, gX8, gX9, gXa, gXb, gXc, gXd, gXe, gXf, gXg, gXh, gXi, gXj, gXk, gXl, gXm, gXn, gXo, gXp, gXq, gXr, gXs, gXt, gXu, gXv, gXw, gXx, k_mv, gXy, gXz, gX01, gX11, gX21, gX31, gX41, gX51, gX61, gX71, gX81, gX91, gXa1, gXb1, gXc1, gXd1, gXe1, gXf1, gXg1, gXh1, gXi1, gXj1, gXk1, gXl1, gXm1, gXn1, gXo1, gXp1, gXq1, gXr1, gXs1, gXt1, gXu1, k_mn, k_mx, gXv1, gXw1, gXx1, gXy1, gXz1, gX02, gX12, gX22, gX32, gX42, gX52, gX62, gX72, Dn.setLast, Dn.getLast, evalO, mapO, Dn.get, putE, gX82, gX92, gXa2, gXb2, TV.one, TV.isAgg, Dn.part, gXc2, negb, at0, at1, at2, at3, at4, dT, dF, gXd2, Option.bind_some, Option.map_some, ln, dd, p1, p2, bl, eq, w2]

theorem l12_3_all {pg : Pg} (hF : Free pg) {A0 A1 A5 A11 : TV} {u : List PL} {x y : List Int} (hu : u.length ≤ 1000000) (hs : Short u) (hx : x.length ≤ 1000000) (hy : y.length ≤ 1000000) {H : Heap} : ∀ (r k : Nat) (fd : Bool), k + r = u.length →
    ∃ e fd', den pg l12_3 [(0, A0), (1, A1), (5, A5), (7, LPv u), (11, A11), (12, elI.lt false x), (13, elI.lt false y), (17, .b fd), (18, .i .i64 (k : Int))] H = some ⟨.exit 4, (0, A0) :: (1, A1) :: (5, A5) :: (7, LPv u) :: (11, A11) :: (12, elI.lt false x) :: (13, elI.lt false y) :: (17, .b fd') :: e, H⟩ ∧ (fd = true → fd' = true) ∧ ∀ j, k ≤ j → u[j]? = some (y, x) → fd' = true
  | 0, k, fd, hk => by
    obtain rfl : k = u.length := by omega
    have ln := lnP u
    refine ⟨[(18, .i .i64 (u.length : Int)), (161, .b false)], fd, ?_, fun h => h, fun j h1 h2 => by rw [List.getElem?_eq_none h1] at h2; cases h2⟩
    generalize LPv u = U at *
    generalize (u.length : Int) = M at *
    generalize elI.lt false x = X at *
    generalize elI.lt false y = Y at *
    rw [l12_3, den_loop]
    simp (disch := omega) [b12_2, gX0, gX1, gX2, gX3, gX4, gX5, gX6, gX7, gX8, gX9, gXa, gXb, gXc, gXd, gXe, gXf, gXg, gXh, gXi, gXj, gXk, gXl, gXm, gXn, gXo, gXp, gXq, gXr, gXs, gXt, gXu, gXv, gXw, gXx, k_mv, gXy, gXz, gX01, gX11, gX21, gX31, gX41, gX51, gX61, gX71, gX81, gX91, gXa1, gXb1, gXc1, gXd1, gXe1, gXf1, gXg1, gXh1, gXi1, gXj1, gXk1, gXl1, gXm1, gXn1, gXo1, gXp1, gXq1, gXr1, gXs1, gXt1, gXu1, k_mn, k_mx, gXv1, gXw1, gXx1, gXy1, gXz1, gX02, gX12, gX22, gX32, gX42, gX52, gX62, gX72, Dn.setLast, Dn.getLast, evalO, mapO, Dn.get, putE, gX82, gX92, gXa2, gXb2, TV.one, TV.isAgg, Dn.part, gXc2, negb, at0, at1, at2, at3, at4, dT, dF, gXd2, Option.bind_some, Option.map_some, ln]
  | r + 1, k, fd, hk => by
    have ln := lnP u
    obtain ⟨p, hp⟩ : ∃ p, u[k]? = some p := ⟨_, List.getElem?_eq_getElem (by omega)⟩
    have sp := hs p (List.mem_of_getElem? hp)
    obtain ⟨t, t1, ⟨t2, t3, t4⟩, ⟨t5, t6, t7⟩⟩ := cellLP (pg := pg) (H := H) hp
    have c1 := call48 (pg := pg) hF (H := H) (El.lt_snap elI_flat false p.1 H) (El.lt_snap elI_flat false y H) sp.1 hy
    have c2 := call48 (pg := pg) hF (H := H) (El.lt_snap elI_flat false p.2 H) (El.lt_snap elI_flat false x H) sp.2 hx
    have w2 : wrapR .i64 ((k : Int) + 1) = .i .i64 ((k + 1 : Nat) : Int) := by rw [← Int.natCast_succ]; exact gXd2 (by omega)
    have dd : decide ((k : Int) < (u.length : Int)) = true := dT (by omega)
    obtain ⟨e, fd', q1, q2, q3⟩ := l12_3_all (pg := pg) hF (A0 := A0) (A1 := A1) (A5 := A5) (A11 := A11) hu hs hx hy (H := H) r (k + 1) (fd || (decide (p.1 = y) && decide (p.2 = x))) (by omega)
    refine ⟨e, fd', Eq.trans ?_ q1, fun h => q2 (by rw [h]; rfl), fun j h1 hj => ?_⟩
    · generalize decide (p.1 = y) = e1 at *
      generalize decide (p.2 = x) = e2 at *
      clear q1 q2 q3 sp hs hp hu hk
      generalize LPv u = U at *
      generalize (u.length : Int) = M at *
      generalize elI.lt false x = X at *
      generalize elI.lt false y = Y at *
      generalize elI.lt false p.1 = P1 at *
      generalize elI.lt false p.2 = P2 at *
      generalize ((k + 1 : Nat) : Int) = K2 at *
      generalize (k : Int) = K at *
      conv => lhs; rw [l12_3, den_loop]
      cases fd
      · cases e1
        · simp (disch := omega) [l12_3, b12_2, gX0, gX1, gX2, gX3, gX4, gX5, gX6, gX7, gX8, gX9, gXa, gXb, gXc, gXd, gXe, gXf, gXg, gXh, gXi, gXj, gXk, gXl, gXm, gXn, gXo, gXp, gXq, gXr, gXs, gXt, gXu, gXv, gXw, gXx, k_mv, gXy, gXz, gX01, gX11, gX21, gX31, gX41, gX51, gX61, gX71, gX81, gX91, gXa1, gXb1, gXc1, gXd1, gXe1, gXf1, gXg1, gXh1, gXi1, gXj1, gXk1, gXl1, gXm1, gXn1, gXo1, gXp1, gXq1, gXr1, gXs1, gXt1, gXu1, k_mn, k_mx, gXv1, gXw1, gXx1, gXy1, gXz1, gX02, gX12, gX22, gX32, gX42, gX52, gX62, gX72, Dn.setLast, Dn.getLast, evalO, mapO, Dn.get, putE, gX82, gX92, gXa2, gXb2, TV.one, TV.isAgg, Dn.part, gXc2, negb, at0, at1, at2, at3, at4, dT, dF, gXd2, Option.bind_some, Option.map_some, ln, dd, t1, t3, t4, t6, t7, c1, c2, w2]
        · cases e2 <;> simp (disch := omega) [l12_3, b12_2, gX0, gX1, gX2, gX3, gX4, gX5, gX6, gX7, gX8, gX9, gXa, gXb, gXc, gXd, gXe, gXf, gXg, gXh, gXi, gXj, gXk, gXl, gXm, gXn, gXo, gXp, gXq, gXr, gXs, gXt, gXu, gXv, gXw, gXx, k_mv, gXy, gXz, gX01, gX11, gX21, gX31, gX41, gX51, gX61, gX71, gX81, gX91, gXa1, gXb1, gXc1, gXd1, gXe1, gXf1, gXg1, gXh1, gXi1, gXj1, gXk1, gXl1, gXm1, gXn1, gXo1, gXp1, gXq1, gXr1, gXs1, gXt1, gXu1, k_mn, k_mx, gXv1, gXw1, gXx1, gXy1, gXz1, gX02, gX12, gX22, gX32, gX42, gX52, gX62, gX72, Dn.setLast, Dn.getLast, evalO, mapO, Dn.get, putE, gX82, gX92, gXa2, gXb2, TV.one, TV.isAgg, Dn.part, gXc2, negb, at0, at1, at2, at3, at4, dT, dF, gXd2, Option.bind_some, Option.map_some, ln, dd, t1, t3, t4, t6, t7, c1, c2, w2]
      · simp (disch := omega) [l12_3, b12_2, gX0, gX1, gX2, gX3, gX4, gX5, gX6, gX7, gX8, gX9, gXa, gXb, gXc, gXd, gXe, gXf, gXg, gXh, gXi, gXj, gXk, gXl, gXm, gXn, gXo, gXp, gXq, gXr, gXs, gXt, gXu, gXv, gXw, gXx, k_mv, gXy, gXz, gX01, gX11, gX21, gX31, gX41, gX51, gX61, gX71, gX81, gX91, gXa1, gXb1, gXc1, gXd1, gXe1, gXf1, gXg1, gXh1, gXi1, gXj1, gXk1, gXl1, gXm1, gXn1, gXo1, gXp1, gXq1, gXr1, gXs1, gXt1, gXu1, k_mn, k_mx, gXv1, gXw1, gXx1, gXy1, gXz1, gX02, gX12, gX22, gX32, gX42, gX52, gX62, gX72, Dn.setLast, Dn.getLast, evalO, mapO, Dn.get, putE, gX82, gX92, gXa2, gXb2, TV.one, TV.isAgg, Dn.part, gXc2, negb, at0, at1, at2, at3, at4, dT, dF, gXd2, Option.bind_some, Option.map_some, ln, dd, t1, t3, t4, t6, t7, c1, c2, w2]
    · by_cases hjk : j = k
      · subst hjk
        rw [hp] at hj
        have := Option.some.inj hj
        exact q2 (by rw [this]; simp)
      · exact q3 j (by omega) hj

theorem l12_5_all {pg : Pg} (hF : Free pg) (hQ96 : pg.Q 96 = some 2) {n m : Nat} (hn : 1 ≤ n ∧ n ≤ 8) (hm : 1 ≤ m ∧ m ≤ 8) : ∀ (r i : Nat) (H : Heap), i + r = (evenL n m).length →
    ∃ e H', den pg l12_5 [(0, .i .i64 (n : Int)), (1, .i .i64 (m : Int)), (5, LPv (evenL n m)), (7, LPv (evenL m n)), (11, .i .i64 (i : Int))] H = some ⟨.exit 0, e, H'⟩
  | 0, i, H, hi => by
    obtain rfl : i = (evenL n m).length := by omega
    have ln := lnP (evenL n m)
    refine ⟨[(0, .i .i64 (n : Int)), (1, .i .i64 (m : Int)), (5, LPv (evenL n m)), (7, LPv (evenL m n)), (11, .i .i64 ((evenL n m).length : Int)), (73, .b false)], H, ?_⟩
    generalize LPv (evenL n m) = D at *
    generalize LPv (evenL m n) = U at *
    generalize ((evenL n m).length : Int) = M at *
    generalize (n : Int) = N at *
    generalize (m : Int) = Mm at *
    rw [l12_5, den_loop]
    simp (disch := omega) [b12_4, gX0, gX1, gX2, gX3, gX4, gX5, gX6, gX7, gX8, gX9, gXa, gXb, gXc, gXd, gXe, gXf, gXg, gXh, gXi, gXj, gXk, gXl, gXm, gXn, gXo, gXp, gXq, gXr, gXs, gXt, gXu, gXv, gXw, gXx, k_mv, gXy, gXz, gX01, gX11, gX21, gX31, gX41, gX51, gX61, gX71, gX81, gX91, gXa1, gXb1, gXc1, gXd1, gXe1, gXf1, gXg1, gXh1, gXi1, gXj1, gXk1, gXl1, gXm1, gXn1, gXo1, gXp1, gXq1, gXr1, gXs1, gXt1, gXu1, k_mn, k_mx, gXv1, gXw1, gXx1, gXy1, gXz1, gX02, gX12, gX22, gX32, gX42, gX52, gX62, gX72, Dn.setLast, Dn.getLast, evalO, mapO, Dn.get, putE, gX82, gX92, gXa2, gXb2, TV.one, TV.isAgg, Dn.part, gXc2, negb, at0, at1, at2, at3, at4, dT, dF, gXd2, Option.bind_some, Option.map_some, ln]
  | r + 1, i, H, hi => by
    have ln := lnP (evenL n m)
    obtain ⟨p, hp⟩ : ∃ p, (evenL n m)[i]? = some p := ⟨_, List.getElem?_eq_getElem (by omega)⟩
    have hmem := List.mem_of_getElem? hp
    obtain ⟨k1, k2, k3, k4, k5, k6, k7⟩ := (even_mem hn hm p).1 hmem
    obtain ⟨hsum, hmx⟩ := sums_even hn hm hmem
    have hsw := even_swap hn hm hmem
    have hcd : ∀ z ∈ [p.1, p.2], DieL 60 z := fun z hz => by simp at hz; rcases hz with rfl | rfl <;> assumption
    have r2 : Row 60 6 [p.1, p.2] := ⟨hcd, by simp, by simp⟩
    have hNM : n * m ≤ 64 := Nat.mul_le_mul hn.2 hm.2
    have hN1 : 1 ≤ n * m := Nat.mul_le_mul hn.1 hm.1
    have b1 := two_bs (pg := pg) false false p.1 p.2 H
    obtain ⟨H1, hH1⟩ : ∃ H1, H1 = H ++ [AObj.cells [elI.lt false p.1, elI.lt false p.2] false] := ⟨_, rfl⟩
    rw [← hH1] at b1
    have s1 := two_sn (K := H1) (id := H.length) (b := false) (b' := false) (x := p.1) (y := p.2) (by rw [hH1]; exact getLast _ _)
    have c43 := PFn.call (fn43 (pg := pg) hF hQ96 (elR_SSV true true [p.1, p.2]) (chk_row r2 (by omega) (by omega))) (args := [.sl H.length 0 1 false 2 (some 2)]) (ks := []) (fs := []) (cs := []) (H := H1) (by simp [snapArgs, s1])
    rw [hsum] at c43
    obtain ⟨t, t1, ⟨t2, t3, t4⟩, ⟨t5, t6, t7⟩⟩ := cellLP (pg := pg) (H := H) hp
    obtain ⟨u1, u2, u3⟩ := ix0 (pg := pg) k3 H1
    obtain ⟨u4, u5, u6⟩ := ix0 (pg := pg) k4 H1
    have n1 := lnB elI false p.1
    have n2 := lnB elI false p.2
    rw [k6] at n1
    rw [k7] at n2
    have n3 := lnE elQ (onesQ (n * m))
    rw [onesQ_len] at n3
    obtain ⟨za, z1, z2, z3, z4⟩ := die_lastN k1
    obtain ⟨zb, y1, y2, y3, y4⟩ := die_lastN k2
    rw [k6] at z1
    rw [k7] at y1
    obtain ⟨v1, v2, v3⟩ := ixI (pg := pg) (R := den pg) (ltV elI false H1 p.1) z1
    obtain ⟨v4, v5, v6⟩ := ixI (pg := pg) (R := den pg) (ltV elI false H1 p.2) y1
    rw [mxS_two, z2, y2] at hmx
    have wn1 : wrapR .i64 ((n : Int) - 1) = .i .i64 ((n - 1 : Nat) : Int) := by rw [show (n : Int) - 1 = ((n - 1 : Nat) : Int) by omega]; exact gXd2 (by omega)
    have wm1 : wrapR .i64 ((m : Int) - 1) = .i .i64 ((m - 1 : Nat) : Int) := by rw [show (m : Int) - 1 = ((m - 1 : Nat) : Int) by omega]; exact gXd2 (by omega)
    have wnm : wrapR .i64 ((n : Int) * (m : Int)) = .i .i64 ((n * m : Nat) : Int) := by rw [← Int.natCast_mul]; exact gXd2 (by omega)
    obtain ⟨L, hL⟩ : ∃ L, L = ((n * m : Nat) : Int) - 1 := ⟨_, rfl⟩
    have wl : wrapR .i64 (((n * m : Nat) : Int) - 1) = .i .i64 L := by rw [hL]; exact gXd2 (by omega)
    have wz : wrapR .i64 (za + zb) = .i .i64 L := by rw [show za + zb = L by omega]; exact gXd2 (by omega)
    have w2 : wrapR .i64 ((i : Int) + 1) = .i .i64 ((i + 1 : Nat) : Int) := by rw [← Int.natCast_succ]; exact gXd2 (by have := (even_short hn hm).2; omega)
    have dd : decide ((i : Int) < ((evenL n m).length : Int)) = true := dT (by omega)
    obtain ⟨e1, q1⟩ := l12_1_all (pg := pg) (A0 := .i .i64 (n : Int)) (A1 := .i .i64 (m : Int)) (A5 := LPv (evenL n m)) (A7 := LPv (evenL m n)) (A11 := .i .i64 (i : Int)) (A12 := elI.lt false p.1) (A13 := elI.lt false p.2) (N := n * m) (by omega) (H := H1) (n * m) 0 (by omega)
    obtain ⟨e2, fd, q2, -, q3⟩ := l12_3_all (pg := pg) hF (A0 := .i .i64 (n : Int)) (A1 := .i .i64 (m : Int)) (A5 := LPv (evenL n m)) (A11 := .i .i64 (i : Int)) (u := evenL m n) (x := p.1) (y := p.2) (even_short hm hn).2 (even_short hm hn).1 (by omega) (by omega) (H := H1) (evenL m n).length 0 false (by omega)
    have hfd : fd = true := by
      obtain ⟨j, hj, he⟩ := List.getElem_of_mem hsw
      exact q3 j (by omega) (by rw [List.getElem?_eq_getElem hj, he])
    subst hfd
    obtain ⟨e, H', g⟩ := l12_5_all (pg := pg) hF hQ96 hn hm r (i + 1) H1 (by omega)
    refine ⟨e, H', Eq.trans ?_ g⟩
    simp only [Int.natCast_zero] at q1 q2
    clear g q3 hsw hsum s1 hH1 r2 hcd k1 k2 k3 k4 k5 hp hmem hn hm hL hmx hi k6 k7 z1 y1 z2 y2 z3 z4 y3 y4 hNM hN1
    generalize LPv (evenL n m) = D at *
    generalize LPv (evenL m n) = U at *
    generalize elI.lt false p.1 = P1 at *
    generalize elI.lt false p.2 = P2 at *
    generalize elQ.lt false (onesQ (n * m)) = S at *
    generalize (TV.sl H.length 0 1 false 2 (some 2)) = S1 at *
    generalize ((evenL n m).length : Int) = M at *
    generalize ((n - 1 : Nat) : Int) = N1 at *
    generalize ((m - 1 : Nat) : Int) = M1 at *
    generalize ((n * m : Nat) : Int) = NM at *
    generalize (n : Int) = N at *
    generalize (m : Int) = Mm at *
    generalize ((i + 1 : Nat) : Int) = I2 at *
    generalize (i : Int) = I at *
    conv => lhs; rw [l12_5, den_loop]
    simp (maxSteps := 1000000) (disch := omega) [l12_5, b12_4, gX0, gX1, gX2, gX3, gX4, gX5, gX6, gX7, gX8, gX9, gXa, gXb, gXc, gXd, gXe, gXf, gXg, gXh, gXi, gXj, gXk, gXl, gXm, gXn, gXo, gXp, gXq, gXr, gXs, gXt, gXu, gXv, gXw, gXx, k_mv, gXy, gXz, gX01, gX11, gX21, gX31, gX41, gX51, gX61, gX71, gX81, gX91, gXa1, gXb1, gXc1, gXd1, gXe1, gXf1, gXg1, gXh1, gXi1, gXj1, gXk1, gXl1, gXm1, gXn1, gXo1, gXp1, gXq1, gXr1, gXs1, gXt1, gXu1, k_mn, k_mx, gXv1, gXw1, gXx1, gXy1, gXz1, gX02, gX12, gX22, gX32, gX42, gX52, gX62, gX72, Dn.setLast, Dn.getLast, evalO, mapO, Dn.get, putE, gX82, gX92, gXa2, gXb2, TV.one, TV.isAgg, Dn.part, gXc2, negb, at0, at1, at2, at3, at4, dT, dF, gXd2, Option.bind_some, Option.map_some, ln, dd, t1, t3, t4, t6, t7, b1, c43, n1, n2, n3, u2, u3, u5, u6, v2, v3, v5, v6, wn1, wm1, wnm, wl, wz, go_denK (c := l12_1) rfl, go_denK (c := l12_3) rfl, q1, q2, w2]

theorem run12 {pg : Pg} (hF : Free pg) (hQ : pg.Q 81 = some 2) (hQ96 : pg.Q 96 = some 2) (h23 : PFn pg 23 [] (.b true)) (x y : Int) : ∃ H, bodyRun pg (den pg) 12 [.i .i64 x, .i .i64 y] [] = some (.b true, H) := by
  obtain ⟨w, a, f1, f2, f3, f4⟩ := conv_rem x (n := 8) (by omega) (by omega)
  obtain ⟨w', b, g1, g2, g3, g4⟩ := conv_rem y (n := 8) (by omega) (by omega)
  obtain ⟨n, hn0⟩ : ∃ n, n = a + 1 := ⟨_, rfl⟩
  obtain ⟨m, hm0⟩ : ∃ m, m = b + 1 := ⟨_, rfl⟩
  have hn : 1 ≤ n ∧ n ≤ 8 := by omega
  have hm : 1 ≤ m ∧ m ≤ 8 := by omega
  have a1 : wrapR .i64 (1 + (a : Int)) = .i .i64 (n : Int) := by rw [show 1 + (a : Int) = (n : Int) by omega]; exact gXd2 (by omega)
  have a2 : wrapR .i64 (1 + (b : Int)) = .i .i64 (m : Int) := by rw [show 1 + (b : Int) = (m : Int) by omega]; exact gXd2 (by omega)
  have c24 := PFn.call (fn24 (pg := pg) hF hQ hn hm) (args := [.i .i64 (n : Int), .i .i64 (m : Int)]) (ks := []) (fs := []) (cs := []) (H := []) (by simp [snapArgs, sn_i])
  have c24' := PFn.call (fn24 (pg := pg) hF hQ hm hn) (args := [.i .i64 (m : Int), .i .i64 (n : Int)]) (ks := []) (fs := []) (cs := []) (H := []) (by simp [snapArgs, sn_i])
  have c25 := PFn.call (fn25 (pg := pg) hF hn hm) (args := [.i .i64 (n : Int), .i .i64 (m : Int)]) (ks := []) (fs := []) (cs := []) (H := []) (by simp [snapArgs, sn_i])
  have l1 := evenL_len hn hm
  have l2 := evenL_len hm hn
  have hsym : chC m n = chC n m := by
    unfold chC
    by_cases h : n = 1 ∧ m = 1
    · rw [if_pos h, if_pos ⟨h.2, h.1⟩]
    · rw [if_neg h, if_neg (fun h2 => h ⟨h2.2, h2.1⟩), Nat.add_comm]
  have n1 := lnP (evenL n m)
  have n2 := lnP (evenL m n)
  rw [l2, hsym] at n2
  obtain ⟨e, H', q⟩ := l12_5_all (pg := pg) hF hQ96 hn hm (evenL n m).length 0 [] (by omega)
  rw [l1] at n1
  have c23 := PFn.call h23 (args := []) (ks := []) (fs := []) (cs := []) (H := H') (by simp [snapArgs])
  refine ⟨H', body_of (x := .ret) (e := [(4, .b true)]) (d := d12) (by rw [hF.F]; rfl) rfl ?_ (.inl rfl) rfl⟩
  simp only [Int.cast_ofNat_Int, Int.natCast_zero] at f2 g2 q
  clear l1 l2 hsym hn hm hn0 hm0 f3 g3
  generalize LPv (evenL n m) = D at *
  generalize LPv (evenL m n) = U at *
  generalize ((chC n m : Nat) : Int) = C at *
  generalize (n : Int) = N at *
  generalize (m : Int) = Mm at *
  generalize (a : Int) = A at *
  generalize (b : Int) = B at *
  generalize (w : Int) = W at *
  generalize (w' : Int) = W' at *
  simp (maxSteps := 1000000) (disch := omega) [d12, c12, zipE, gX0, gX1, gX2, gX3, gX4, gX5, gX6, gX7, gX8, gX9, gXa, gXb, gXc, gXd, gXe, gXf, gXg, gXh, gXi, gXj, gXk, gXl, gXm, gXn, gXo, gXp, gXq, gXr, gXs, gXt, gXu, gXv, gXw, gXx, k_mv, gXy, gXz, gX01, gX11, gX21, gX31, gX41, gX51, gX61, gX71, gX81, gX91, gXa1, gXb1, gXc1, gXd1, gXe1, gXf1, gXg1, gXh1, gXi1, gXj1, gXk1, gXl1, gXm1, gXn1, gXo1, gXp1, gXq1, gXr1, gXs1, gXt1, gXu1, k_mn, k_mx, gXv1, gXw1, gXx1, gXy1, gXz1, gX02, gX12, gX22, gX32, gX42, gX52, gX62, gX72, Dn.setLast, Dn.getLast, evalO, mapO, Dn.get, putE, gX82, gX92, gXa2, gXb2, TV.one, TV.isAgg, Dn.part, gXc2, negb, at0, at1, at2, at3, at4, dT, dF, gXd2, Option.bind_some, Option.map_some, f1, f2, f4, g1, g2, g4, a1, a2, c24, c24', c25, n1, n2, go_denK (c := l12_5) rfl, q, c23]

end Go.Proofs.Try.Dn

