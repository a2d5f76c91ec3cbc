/-
  Dice: Sicherman's law run.
-/
import Derived.Test.YtijeefncmgjlpaaTI
import Derived.Test.YtijeefncmgjlpaaR14
set_option linter.unusedSimpArgs false
set_option linter.unusedVariables false

set_option maxHeartbeats 4000000
set_option maxRecDepth 100000
namespace Go.Proofs.Try.Dn
open Go.Dn

theorem lt_cellsI (b : Bool) (x : List Int) : (elI.lt b x).cells = [elI.lt b x] := by cases x <;> rfl

theorem two_bs {pg : Pg} (b b' : Bool) (x y : List Int) (H : Heap) : dkc pg (den pg) (.bsl false [.nilsl] false 2 [0, 1]) [elI.lt b x, elI.lt b' y] H = some (.sl H.length 0 1 false 2 (some 2), H ++ [.cells [elI.lt b x, elI.lt b' y] false]) := by
  simp [dkc, dk, fillP, repl, put2, lt_cellsI, El.lt_one]

theorem two_sn {K : Heap} {id : Nat} {b b' : Bool} {x y : List Int} (h : K[id]? = some (.cells [elI.lt b x, elI.lt b' y] false)) : snap .borrow K 9 (.sl id 0 1 false 2 (some 2)) = some ((elR true).lt true [x, y]) := by
  have s8 : ∀ (c : Bool) (x : List Int) (K : Heap), snap .borrow K 8 (elI.lt c x) = some (elI.lt true x) := fun c x K => snap_ints c K 6 x
  rw [gXk2 _ (by decide), h, gXm2]
  simp [sn_i, sn_b, gXe2, gXf2, gXg2, gXh2, gXi2, gXj2, gXk2, gXl2, gXm2, gXn2, gXo2, gXp2, mapO, elems, s8]
  rfl

theorem cellLP {pg : Pg} {H : Heap} {l : List PL} {i : Nat} {x : PL} (hx : l[i]? = some x) : ∃ p, dkc pg (den pg) (.ixS 2 true) [LPv l, .i .i64 (i : Int)] H = some (p, H) ∧
    (∃ q, dkc pg (den pg) (.ixA 2 1 false) [p, .i .i64 0] H = some (q, H) ∧ dkc pg (den pg) (.ld 1 false) [q] H = some (elI.lt false x.1, H)) ∧
    ∃ q, dkc pg (den pg) (.ixA 2 1 false) [p, .i .i64 1] H = some (q, H) ∧ dkc pg (den pg) (.ld 1 false) [q] H = some (elI.lt false x.2, H) := by
  obtain ⟨p, h1, h2, _⟩ := (ltV elP false H l).ix (pg := pg) (R := den pg) hx .i64
  exact ⟨p, h1, h2.cell (j := 0) (v := elI.lt false x.1) rfl rfl .i64, h2.cell (j := 1) (v := elI.lt false x.2) rfl rfl .i64⟩

theorem lnP (l : List PL) (K : Heap) : (lenK 0 (LPv l) K).map (fun (n : Nat) => TV.i .i64 (n : Int)) = some (.i .i64 (l.length : Int)) := by
  unfold LPv; rw [(ltV elP false K l).lenK]; rfl

theorem ix0 {pg : Pg} {l : List Int} {d : Int} (hd : l[0]? = some d) (H : Heap) : ∃ p, dkc pg (den pg) (.ixS 1 false) [elI.lt false l, .i .i64 0] H = some (p, H) ∧ dkc pg (den pg) (.ld 1 false) [p] H = some (.i .i64 d, H) := by
  obtain ⟨p, p1, p2⟩ := ixI (pg := pg) (R := den pg) (ltV elI false H l) hd
  exact ⟨p, p1, p2⟩

theorem l16_1_all {pg : Pg} (hF : Free pg) (hQ : pg.Q 81 = some 2) (hQ96 : pg.Q 96 = some 2) {x y : List Int} (hX : DieL 60 x) (hY : DieL 60 y) : ∀ (r i : Nat) (fd : Bool) (H : Heap), i + r = min (twinsL x y).length 20 →
    ∃ e fd' H', den pg l16_1 [(5, elI.lt false x), (6, elI.lt false y), (7, LPv (twinsL x y)), (9, .b fd), (10, .i .i64 (i : Int))] H = some ⟨.exit 0, (5, elI.lt false x) :: (6, elI.lt false y) :: (7, LPv (twinsL x y)) :: (9, .b fd') :: e, H'⟩ ∧ (fd = true → fd' = true) ∧ ∀ j, i ≤ j → j < min (twinsL x y).length 20 → (twinsL x y)[j]? = some (x, y) → fd' = true
  | 0, i, fd, H, hi => by
    have ln := lnP (twinsL x y)
    refine ⟨[(10, .i .i64 (i : Int)), (41, .b false)], fd, H, ?_, fun h => h, fun j h1 h2 => by omega⟩
    by_cases h : (i : Int) < ((twinsL x y).length : Int)
    · have d1 : decide ((i : Int) < ((twinsL x y).length : Int)) = true := dT h
      have d2 : decide ((i : Int) < 20) = false := dF (by omega)
      generalize LPv (twinsL x y) = T at *
      generalize elI.lt false x = X at *
      generalize elI.lt false y = Y at *
      generalize ((twinsL x y).length : Int) = M at *
      generalize (i : Int) = I at *
      clear hi h
      rw [l16_1, den_loop]
      simp (disch := omega) [b16_0, gX0, gX1, gX2, gX3, gX4, gX5, gX6, gX7, gX8, gX9, gXa, gXb, gXc, gXd, gXe, gXf, gXg, gXh, gXi, gXj, gXk, gXl, gXm, gXn, gXo, gXp, gXq, gXr, gXs, gXt, gXu, gXv, gXw, gXx, k_mv, gXy, gXz, gX01, gX11, gX21, gX31, gX41, gX51, gX61, gX71, gX81, gX91, gXa1, gXb1, gXc1, gXd1, gXe1, gXf1, gXg1, gXh1, gXi1, gXj1, gXk1, gXl1, gXm1, gXn1, gXo1, gXp1, gXq1, gXr1, gXs1, gXt1, gXu1, k_mn, k_mx, gXv1, gXw1, gXx1, gXy1, gXz1, gX02, gX12, gX22, gX32, gX42, gX52, gX62, gX72, Dn.setLast, Dn.getLast, evalO, mapO, Dn.get, putE, gX82, gX92, gXa2, gXb2, TV.one, TV.isAgg, Dn.part, gXc2, negb, at0, at1, at2, at3, at4, dT, dF, gXd2, Option.bind_some, Option.map_some, ln, d1, d2]
    · have d1 : decide ((i : Int) < ((twinsL x y).length : Int)) = false := dF h
      generalize LPv (twinsL x y) = T at *
      generalize elI.lt false x = X at *
      generalize elI.lt false y = Y at *
      generalize ((twinsL x y).length : Int) = M at *
      generalize (i : Int) = I at *
      clear hi h
      rw [l16_1, den_loop]
      simp (disch := omega) [b16_0, gX0, gX1, gX2, gX3, gX4, gX5, gX6, gX7, gX8, gX9, gXa, gXb, gXc, gXd, gXe, gXf, gXg, gXh, gXi, gXj, gXk, gXl, gXm, gXn, gXo, gXp, gXq, gXr, gXs, gXt, gXu, gXv, gXw, gXx, k_mv, gXy, gXz, gX01, gX11, gX21, gX31, gX41, gX51, gX61, gX71, gX81, gX91, gXa1, gXb1, gXc1, gXd1, gXe1, gXf1, gXg1, gXh1, gXi1, gXj1, gXk1, gXl1, gXm1, gXn1, gXo1, gXp1, gXq1, gXr1, gXs1, gXt1, gXu1, k_mn, k_mx, gXv1, gXw1, gXx1, gXy1, gXz1, gX02, gX12, gX22, gX32, gX42, gX52, gX62, gX72, Dn.setLast, Dn.getLast, evalO, mapO, Dn.get, putE, gX82, gX92, gXa2, gXb2, TV.one, TV.isAgg, Dn.part, gXc2, negb, at0, at1, at2, at3, at4, dT, dF, gXd2, Option.bind_some, Option.map_some, ln, d1]
  | r + 1, i, fd, H, hi => by
    have ln := lnP (twinsL x y)
    obtain ⟨p, hp⟩ : ∃ p, (twinsL x y)[i]? = some p := ⟨_, List.getElem?_eq_getElem (by omega)⟩
    have hmem := List.mem_of_getElem? hp
    obtain ⟨k1, k2, k3, k4, k5, k6, k7⟩ := (twins_mem hX hY p).1 hmem
    have htt := twins_twins hX hY hmem
    have hxy : ∀ z ∈ [x, y], DieL 60 z := fun z hz => by simp at hz; rcases hz with rfl | rfl <;> assumption
    have hcd : ∀ z ∈ [p.1, p.2], DieL 60 z := fun z hz => by simp at hz; rcases hz with rfl | rfl <;> assumption
    have r1 : Row 60 6 [x, y] := ⟨hxy, by simp, by simp⟩
    have r2 : Row 60 6 [p.1, p.2] := ⟨hcd, by simp, by simp⟩
    -- the two rows of two dice
    have b1 := two_bs (pg := pg) false false x y H
    obtain ⟨H1, hH1⟩ : ∃ H1, H1 = H ++ [AObj.cells [elI.lt false x, elI.lt false y] false] := ⟨_, rfl⟩
    rw [← hH1] at b1
    have b2 := two_bs (pg := pg) false false p.1 p.2 H1
    obtain ⟨H2, hH2⟩ : ∃ H2, H2 = H1 ++ [AObj.cells [elI.lt false p.1, elI.lt false p.2] false] := ⟨_, rfl⟩
    rw [← hH2] at b2
    have l1 : H1.length = H.length + 1 := by rw [hH1]; simp
    have s1 := two_sn (K := H2) (id := H.length) (b := false) (b' := false) (x := x) (y := y) (by rw [hH2, List.getElem?_append_left (by omega), hH1]; exact getLast _ _)
    have s2 := two_sn (K := H2) (id := H1.length) (b := false) (b' := false) (x := p.1) (y := p.2) (by rw [hH2]; exact getLast _ _)
    have c49 := PFn.call (fn49 (pg := pg) hF hQ96 (elR_SSV true true [x, y]) (elR_SSV true true [p.1, p.2]) (chk_row r2 (by omega) (by omega)) (chk_row r1 (by omega) (by omega))) (args := [.sl H.length 0 1 false 2 (some 2), .sl H1.length 0 1 false 2 (some 2)]) (ks := []) (fs := []) (cs := []) (H := H2) (by simp [snapArgs, s1, s2])
    have hsame : sumsL [x, y] = sumsL [p.1, p.2] := (sumsL_iff (by simp) (by simp) hxy hcd).2 k5.symm
    rw [decide_eq_true hsame] at c49
    obtain ⟨c0, hc0⟩ : ∃ c, p.1[0]? = some c := ⟨_, List.getElem?_eq_getElem k1.pos⟩
    obtain ⟨d0, hd0⟩ : ∃ c, p.2[0]? = some c := ⟨_, List.getElem?_eq_getElem k2.pos⟩
    have hx0 : x[0]? = some c0 := by rw [← k3]; exact hc0
    have hy0 : y[0]? = some d0 := by rw [← k4]; exact hd0
    obtain ⟨t, t1, ⟨t2, t3, t4⟩, ⟨t5, t6, t7⟩⟩ := cellLP (pg := pg) (H := H) hp
    obtain ⟨u1, u2, u3⟩ := ix0 (pg := pg) hc0 H2
    obtain ⟨u4, u5, u6⟩ := ix0 (pg := pg) hd0 H2
    obtain ⟨u7, u8, u9⟩ := ix0 (pg := pg) hx0 H2
    obtain ⟨v1, v2, v3⟩ := ix0 (pg := pg) hy0 H2
    have n1 := lnB elI false p.1
    have n2 := lnB elI false p.2
    have n3 := lnB elI false x
    have n4 := lnB elI false y
    rw [k6] at n1
    rw [k7] at n2
    have c1 := call48 (pg := pg) hF (H := H2) (El.lt_snap elI_flat false p.1 H2) (El.lt_snap elI_flat false x H2) (by have := k1.le; omega) (by have := hX.le; omega)
    have c2 := call48 (pg := pg) hF (H := H2) (El.lt_snap elI_flat false p.2 H2) (El.lt_snap elI_flat false y H2) (by have := k2.le; omega) (by have := hY.le; omega)
    have c20 := call20 (pg := pg) hF hQ (c := false) (d := false) k1 k2 H2
    rw [htt] at c20
    obtain ⟨z1, z2⟩ := twins_short hX hY
    have c21 := call21 (pg := pg) hF _ _ z2 z2 z1 z1 H2
    rw [decide_eq_true rfl] at c21
    have w2 : wrapR .i64 ((i : Int) + 1) = .i .i64 ((i + 1 : Nat) : Int) := by rw [← Int.natCast_succ]; exact gXd2 (by omega)
    have d1 : decide ((i : Int) < ((twinsL x y).length : Int)) = true := dT (by omega)
    have d2 : decide ((i : Int) < 20) = true := dT (by omega)
    obtain ⟨e, fd', H', q1, q2, q3⟩ := l16_1_all (pg := pg) hF hQ hQ96 hX hY r (i + 1) (fd || (decide (p.1 = x) && decide (p.2 = y))) H2 (by omega)
    refine ⟨e, fd', H', Eq.trans ?_ q1, fun h => q2 (by rw [h]; rfl), fun j h1 h2 hj => ?_⟩
    · generalize decide (p.1 = x) = e1 at *
      generalize decide (p.2 = y) = e2 at *
      clear q1 q2 q3 z1 z2 htt hsame s1 s2 hH1 hH2 r1 r2 hcd hxy k1 k2 k3 k4 k5 k6 k7 hp hmem hX hY hc0 hd0 hx0 hy0 hi l1
      generalize LPv (twinsL x y) = T at *
      generalize elI.lt false x = X at *
      generalize elI.lt false y = Y at *
      generalize elI.lt false p.1 = P1 at *
      generalize elI.lt false p.2 = P2 at *
      generalize (TV.sl H.length 0 1 false 2 (some 2)) = S1 at *
      generalize (TV.sl H1.length 0 1 false 2 (some 2)) = S2 at *
      generalize ((twinsL x y).length : Int) = M at *
      generalize (x.length : Int) = lx at *
      generalize (y.length : Int) = ly at *
      generalize ((i + 1 : Nat) : Int) = I2 at *
      generalize (i : Int) = I at *
      conv => lhs; rw [l16_1, den_loop]
      cases fd
      · cases e1
        · simp (disch := omega) [l16_1, b16_0, gX0, gX1, gX2, gX3, gX4, gX5, gX6, gX7, gX8, gX9, gXa, gXb, gXc, gXd, gXe, gXf, gXg, gXh, gXi, gXj, gXk, gXl, gXm, gXn, gXo, gXp, gXq, gXr, gXs, gXt, gXu, gXv, gXw, gXx, k_mv, gXy, gXz, gX01, gX11, gX21, gX31, gX41, gX51, gX61, gX71, gX81, gX91, gXa1, gXb1, gXc1, gXd1, gXe1, gXf1, gXg1, gXh1, gXi1, gXj1, gXk1, gXl1, gXm1, gXn1, gXo1, gXp1, gXq1, gXr1, gXs1, gXt1, gXu1, k_mn, k_mx, gXv1, gXw1, gXx1, gXy1, gXz1, gX02, gX12, gX22, gX32, gX42, gX52, gX62, gX72, Dn.setLast, Dn.getLast, evalO, mapO, Dn.get, putE, gX82, gX92, gXa2, gXb2, TV.one, TV.isAgg, Dn.part, gXc2, negb, at0, at1, at2, at3, at4, dT, dF, gXd2, Option.bind_some, Option.map_some, ln, d1, d2, t1, t3, t4, t6, t7, b1, b2, c49, n1, n2, n3, n4, u2, u3, u5, u6, u8, u9, v2, v3, c1, c2, c20, c21, w2]
        · cases e2 <;> simp (disch := omega) [l16_1, b16_0, gX0, gX1, gX2, gX3, gX4, gX5, gX6, gX7, gX8, gX9, gXa, gXb, gXc, gXd, gXe, gXf, gXg, gXh, gXi, gXj, gXk, gXl, gXm, gXn, gXo, gXp, gXq, gXr, gXs, gXt, gXu, gXv, gXw, gXx, k_mv, gXy, gXz, gX01, gX11, gX21, gX31, gX41, gX51, gX61, gX71, gX81, gX91, gXa1, gXb1, gXc1, gXd1, gXe1, gXf1, gXg1, gXh1, gXi1, gXj1, gXk1, gXl1, gXm1, gXn1, gXo1, gXp1, gXq1, gXr1, gXs1, gXt1, gXu1, k_mn, k_mx, gXv1, gXw1, gXx1, gXy1, gXz1, gX02, gX12, gX22, gX32, gX42, gX52, gX62, gX72, Dn.setLast, Dn.getLast, evalO, mapO, Dn.get, putE, gX82, gX92, gXa2, gXb2, TV.one, TV.isAgg, Dn.part, gXc2, negb, at0, at1, at2, at3, at4, dT, dF, gXd2, Option.bind_some, Option.map_some, ln, d1, d2, t1, t3, t4, t6, t7, b1, b2, c49, n1, n2, n3, n4, u2, u3, u5, u6, u8, u9, v2, v3, c1, c2, c20, c21, w2]
      · simp (disch := omega) [l16_1, b16_0, gX0, gX1, gX2, gX3, gX4, gX5, gX6, gX7, gX8, gX9, gXa, gXb, gXc, gXd, gXe, gXf, gXg, gXh, gXi, gXj, gXk, gXl, gXm, gXn, gXo, gXp, gXq, gXr, gXs, gXt, gXu, gXv, gXw, gXx, k_mv, gXy, gXz, gX01, gX11, gX21, gX31, gX41, gX51, gX61, gX71, gX81, gX91, gXa1, gXb1, gXc1, gXd1, gXe1, gXf1, gXg1, gXh1, gXi1, gXj1, gXk1, gXl1, gXm1, gXn1, gXo1, gXp1, gXq1, gXr1, gXs1, gXt1, gXu1, k_mn, k_mx, gXv1, gXw1, gXx1, gXy1, gXz1, gX02, gX12, gX22, gX32, gX42, gX52, gX62, gX72, Dn.setLast, Dn.getLast, evalO, mapO, Dn.get, putE, gX82, gX92, gXa2, gXb2, TV.one, TV.isAgg, Dn.part, gXc2, negb, at0, at1, at2, at3, at4, dT, dF, gXd2, Option.bind_some, Option.map_some, ln, d1, d2, t1, t3, t4, t6, t7, b1, b2, c49, n1, n2, n3, n4, u2, u3, u5, u6, u8, u9, v2, v3, c1, c2, c20, c21, w2]
    · by_cases hij : j = i
      · subst hij
        rw [hp] at hj
        have := Option.some.inj hj
        exact q2 (by rw [this]; simp)
      · exact q3 j (by omega) h2 hj

theorem run16 {pg : Pg} (hF : Free pg) (hQ : pg.Q 81 = some 2) (hQ96 : pg.Q 96 = some 2) (h23 : PFn pg 23 [] (.b true)) {S T : TV} {k l : List Int} (hS : SV S k) (hk : k.length ≤ 9223372036854775807) (hT : SV T l) (hl : l.length ≤ 9223372036854775807) : ∃ H, bodyRun pg (den pg) 16 [S, T] [] = some (.b true, H) := by
  obtain ⟨x, hA, c1⟩ := call19 (pg := pg) hF hS hk (most := 9) (by omega) []
  obtain ⟨y, hB, c2⟩ := call19 (pg := pg) hF hT hl (most := 9) (by omega) []
  have hX := hA.mono (n := 60) (by omega)
  have hY := hB.mono (n := 60) (by omega)
  have c20 := call20 (pg := pg) hF hQ (c := false) (d := false) hX hY []
  have hin : (x, y) ∈ twinsL x y := (twins_mem hX hY (x, y)).2 ⟨hX, hY, rfl, rfl, rfl, rfl, rfl⟩
  obtain ⟨e, fd, H, q1, -, q3⟩ := l16_1_all (pg := pg) hF hQ hQ96 hX hY (min (twinsL x y).length 20) 0 false [] (by omega)
  have ln := lnP (twinsL x y)
  have c23 := PFn.call h23 (args := []) (ks := []) (fs := []) (cs := []) (H := H) (by simp [snapArgs])
  have hpos : 1 ≤ (twinsL x y).length := by
    cases h : twinsL x y with
    | nil => rw [h] at hin; simp at hin
    | cons _ _ => simp
  have d1 : decide (((twinsL x y).length : Int) < 1) = false := dF (by omega)
  have hfd : fd = true ∨ decide (((twinsL x y).length : Int) > 20) = true := by
    by_cases h : (twinsL x y).length ≤ 20
    · left
      obtain ⟨j, hj, e⟩ := List.getElem_of_mem hin
      exact q3 j (by omega) (by omega) (by rw [List.getElem?_eq_getElem hj, e])
    · right
      exact dT (by omega)
  refine ⟨H, body_of (x := .ret) (e := [(4, .b true)]) (d := d16) (by rw [hF.F]; rfl) rfl ?_ (.inl rfl) rfl⟩
  simp only [Int.cast_ofNat_Int, Int.natCast_zero] at c1 c2 q1
  clear hS hT hA hB hX hY hin q3 hpos
  generalize LPv (twinsL x y) = R at *
  generalize elI.lt false x = X at *
  generalize elI.lt false y = Y at *
  generalize ((twinsL x y).length : Int) = M at *
  cases fd
  · have hfd : decide (M > 20) = true := hfd.resolve_left (by simp)
    simp (maxSteps := 1000000) (disch := omega) [d16, c16, zipE, gX0, gX1, gX2, gX3, gX4, gX5, gX6, gX7, gX8, gX9, gXa, gXb, gXc, gXd, gXe, gXf, gXg, gXh, gXi, gXj, gXk, gXl, gXm, gXn, gXo, gXp, gXq, gXr, gXs, gXt, gXu, gXv, gXw, gXx, k_mv, gXy, gXz, gX01, gX11, gX21, gX31, gX41, gX51, gX61, gX71, gX81, gX91, gXa1, gXb1, gXc1, gXd1, gXe1, gXf1, gXg1, gXh1, gXi1, gXj1, gXk1, gXl1, gXm1, gXn1, gXo1, gXp1, gXq1, gXr1, gXs1, gXt1, gXu1, k_mn, k_mx, gXv1, gXw1, gXx1, gXy1, gXz1, gX02, gX12, gX22, gX32, gX42, gX52, gX62, gX72, Dn.setLast, Dn.getLast, evalO, mapO, Dn.get, putE, gX82, gX92, gXa2, gXb2, TV.one, TV.isAgg, Dn.part, gXc2, negb, at0, at1, at2, at3, at4, dT, dF, gXd2, Option.bind_some, Option.map_some, c1, c2, c20, ln, d1, go_denK (c := l16_1) rfl, q1, hfd, c23]
  · simp (maxSteps := 1000000) (disch := omega) [d16, c16, zipE, gX0, gX1, gX2, gX3, gX4, gX5, gX6, gX7, gX8, gX9, gXa, gXb, gXc, gXd, gXe, gXf, gXg, gXh, gXi, gXj, gXk, gXl, gXm, gXn, gXo, gXp, gXq, gXr, gXs, gXt, gXu, gXv, gXw, gXx, k_mv, gXy, gXz, gX01, gX11, gX21, gX31, gX41, gX51, gX61, gX71, gX81, gX91, gXa1, gXb1, gXc1, gXd1, gXe1, gXf1, gXg1, gXh1, gXi1, gXj1, gXk1, gXl1, gXm1, gXn1, gXo1, gXp1, gXq1, gXr1, gXs1, gXt1, gXu1, k_mn, k_mx, gXv1, gXw1, gXx1, gXy1, gXz1, gX02, gX12, gX22, gX32, gX42, gX52, gX62, gX72, Dn.setLast, Dn.getLast, evalO, mapO, Dn.get, putE, gX82, gX92, gXa2, gXb2, TV.one, TV.isAgg, Dn.part, gXc2, negb, at0, at1, at2, at3, at4, dT, dF, gXd2, Option.bind_some, Option.map_some, c1, c2, c20, ln, d1, go_denK (c := l16_1) rfl, q1, c23]

end Go.Proofs.Try.Dn

