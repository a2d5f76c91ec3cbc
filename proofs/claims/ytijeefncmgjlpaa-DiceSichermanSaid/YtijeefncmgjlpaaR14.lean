/-
  Dice: the same sums: the law run.
-/
import Derived.Test.YtijeefncmgjlpaaR11
set_option linter.unusedSimpArgs false
set_option linter.unusedVariables false

set_option maxHeartbeats 4000000
set_option maxRecDepth 100000
namespace Go.Proofs.Try.Dn
open Go.Dn

/-! ## the plain law -/

theorem sumsL_wn {ls : List (List Int)} (hl : ls.length ≤ 6) (hD : ∀ d ∈ ls, DieL 60 d) (j w : Int) : (j, w) ∈ sumsL ls ↔ wn ls j ≠ 0 ∧ w = ((wn ls j : Nat) : Int) := by
  constructor
  · intro h
    have := sumsL_mem hl hD h
    exact ⟨this.2.2.2.1, this.2.2.1⟩
  · rintro ⟨h0, rfl⟩
    have hr := wn_range hD h0
    unfold sumsL sumsN
    rw [List.mem_filterMap]
    refine ⟨j.toNat, List.mem_range.2 (by omega), ?_⟩
    rw [show ((j.toNat : Nat) : Int) = j by omega, if_neg h0]

theorem sumsL_iff {xs ys : List (List Int)} (hx : xs.length ≤ 6) (hy : ys.length ≤ 6) (hX : ∀ d ∈ xs, DieL 60 d) (hY : ∀ d ∈ ys, DieL 60 d) : sumsL xs = sumsL ys ↔ wn xs = wn ys := by
  constructor
  · intro h
    funext j
    by_cases h0 : wn xs j = 0
    · by_cases h1 : wn ys j = 0
      · rw [h0, h1]
      · have := (sumsL_wn hy hY j _).2 ⟨h1, rfl⟩
        rw [← h] at this
        exact absurd h0 ((sumsL_wn hx hX j _).1 this).1
    · have := (sumsL_wn hx hX j _).2 ⟨h0, rfl⟩
      rw [h] at this
      have := ((sumsL_wn hy hY j _).1 this).2
      omega
  · intro h
    unfold sumsL sumsN
    rw [h]

/-! ## the walk -/

theorem eqA2n {pg : Pg} {x y : Int × Int} (h : x ≠ y) (H : Heap) : dkc pg (den pg) (.eqA true [true, true]) [.agg [.i .i64 x.1, .i .i64 x.2], .agg [.i .i64 y.1, .i .i64 y.2]] H = some (.b true, H) := by
  rw [gX11]
  by_cases h1 : x.1 = y.1
  · have h2 : ¬ x.2 = y.2 := fun h2 => h (Prod.ext h1 h2)
    simp [eqL, eqS, up, negb, h1, h2]
  · simp [eqL, eqS, up, negb, h1]

theorem lnEb {α : Type} (E : El α) (b : Bool) (l : List α) (K : Heap) : (lenK 0 (E.lt b l) K).map (fun (n : Nat) => TV.i .i64 (n : Int)) = some (.i .i64 (l.length : Int)) := by
  rw [(ltV E b K l).lenK]; rfl

theorem ixQb {pg : Pg} {H : Heap} {b : Bool} {l : List (Int × Int)} {i : Nat} {x : Int × Int} (hx : l[i]? = some x) : ∃ p, dkc pg (den pg) (.ixS 2 true) [elQ.lt b l, .i .i64 (i : Int)] H = some (p, H) ∧ dkc pg (den pg) (.ld 2 true) [p] H = some (.agg [.i .i64 x.1, .i .i64 x.2], H) := by
  obtain ⟨p, h1, h2, _⟩ := (ltV elQ b H l).ix (pg := pg) (R := den pg) hx .i64
  exact ⟨p, h1, h2.ld⟩

theorem take_step {α : Type} {a b : List α} {k : Nat} {x : α} (h : a.take k = b.take k) (ha : a[k]? = some x) (hb : b[k]? = some x) : a.take (k + 1) = b.take (k + 1) := by
  rw [List.take_add_one, List.take_add_one, h, ha, hb]

theorem l71_1_all {pg : Pg} {a b : List (Int × Int)} (hn : a.length = b.length) (h6 : a.length ≤ 1000000) : ∀ (r k : Nat), k + r = a.length → a.take k = b.take k →
    (a = b → ∃ e, den pg l71_1 [(0, elQ.lt true a), (1, elQ.lt true b), (12, .i .i64 (a.length : Int)), (13, .i .i64 (k : Int))] [] = some ⟨.exit 0, e, []⟩) ∧
    (a ≠ b → den pg l71_1 [(0, elQ.lt true a), (1, elQ.lt true b), (12, .i .i64 (a.length : Int)), (13, .i .i64 (k : Int))] [] = some ⟨.ret, [(4, .b false)], []⟩)
  | 0, k, hk, ht => by
    obtain rfl : k = a.length := by omega
    rw [List.take_length, hn, List.take_length] at ht
    refine ⟨fun _ => ⟨[(0, elQ.lt true a), (1, elQ.lt true b), (12, .i .i64 (a.length : Int)), (13, .i .i64 (a.length : Int)), (14, .b false)], ?_⟩, fun h => absurd ht h⟩
    generalize elQ.lt true a = A at *
    generalize elQ.lt true b = B at *
    generalize (a.length : Int) = M at *
    rw [l71_1, den_loop]
    simp (disch := omega) [b71_0, gX0, gX1, gX2, gX3, gX4, gX5, gX6, gX7, gX8, gX9, gXa, gXb, gXc, gXd, gXe, gXf, gXg, gXh, gXi, gXj, gXk, gXl, gXm, gXn, gXo, gXp, gXq, gXr, gXs, gXt, gXu, gXv, gXw, gXx, k_mv, gXy, gXz, gX01, gX11, gX21, gX31, gX41, gX51, gX61, gX71, gX81, gX91, gXa1, gXb1, gXc1, gXd1, gXe1, gXf1, gXg1, gXh1, gXi1, gXj1, gXk1, gXl1, gXm1, gXn1, gXo1, gXp1, gXq1, gXr1, gXs1, gXt1, gXu1, k_mn, k_mx, gXv1, gXw1, gXx1, gXy1, gXz1, gX02, gX12, gX22, gX32, gX42, gX52, gX62, gX72, Dn.setLast, Dn.getLast, evalO, mapO, Dn.get, putE, gX82, gX92, gXa2, gXb2, TV.one, TV.isAgg, Dn.part, gXc2, negb, at0, at1, at2, at3, at4, dT, dF, gXd2, Option.bind_some, Option.map_some]
  | r + 1, k, hk, ht => by
    obtain ⟨x, hx⟩ : ∃ x, a[k]? = some x := ⟨_, List.getElem?_eq_getElem (by omega)⟩
    obtain ⟨y, hy⟩ : ∃ y, b[k]? = some y := ⟨_, List.getElem?_eq_getElem (by omega)⟩
    obtain ⟨p, p1, p2⟩ := ixQb (pg := pg) (H := []) (b := true) hx
    obtain ⟨q, q1, q2⟩ := ixQb (pg := pg) (H := []) (b := true) hy
    have w2 : wrapR .i64 ((k : Int) + 1) = .i .i64 ((k + 1 : Nat) : Int) := by rw [← Int.natCast_succ]; exact gXd2 (by omega)
    have dd : decide ((k : Int) < (a.length : Int)) = true := dT (by omega)
    by_cases he : x = y
    · subst he
      have ih := l71_1_all (pg := pg) hn h6 r (k + 1) (by omega) (take_step ht hx hy)
      have eq := eqA2 (pg := pg) x.1 x.2 []
      have st : den pg l71_1 [(0, elQ.lt true a), (1, elQ.lt true b), (12, .i .i64 (a.length : Int)), (13, .i .i64 (k : Int))] [] = den pg l71_1 [(0, elQ.lt true a), (1, elQ.lt true b), (12, .i .i64 (a.length : Int)), (13, .i .i64 ((k + 1 : Nat) : Int))] [] := by
        clear ih ht hn
        generalize elQ.lt true a = A at *
        generalize elQ.lt true b = B at *
        generalize (a.length : Int) = M at *
        generalize TV.agg [.i .i64 x.1, .i .i64 x.2] = V at *
        generalize ((k + 1 : Nat) : Int) = K2 at *
        generalize (k : Int) = K at *
        conv => lhs; rw [l71_1, den_loop]
        simp (disch := omega) [l71_1, b71_0, gX0, gX1, gX2, gX3, gX4, gX5, gX6, gX7, gX8, gX9, gXa, gXb, gXc, gXd, gXe, gXf, gXg, gXh, gXi, gXj, gXk, gXl, gXm, gXn, gXo, gXp, gXq, gXr, gXs, gXt, gXu, gXv, gXw, gXx, k_mv, gXy, gXz, gX01, gX11, gX21, gX31, gX41, gX51, gX61, gX71, gX81, gX91, gXa1, gXb1, gXc1, gXd1, gXe1, gXf1, gXg1, gXh1, gXi1, gXj1, gXk1, gXl1, gXm1, gXn1, gXo1, gXp1, gXq1, gXr1, gXs1, gXt1, gXu1, k_mn, k_mx, gXv1, gXw1, gXx1, gXy1, gXz1, gX02, gX12, gX22, gX32, gX42, gX52, gX62, gX72, Dn.setLast, Dn.getLast, evalO, mapO, Dn.get, putE, gX82, gX92, gXa2, gXb2, TV.one, TV.isAgg, Dn.part, gXc2, negb, at0, at1, at2, at3, at4, dT, dF, gXd2, Option.bind_some, Option.map_some, dd, p1, p2, q1, q2, eq, w2]
      exact ⟨fun h => by rw [st]; exact ih.1 h, fun h => by rw [st]; exact ih.2 h⟩
    · have eq := eqA2n (pg := pg) he []
      refine ⟨fun h => ?_, fun h => ?_⟩
      · rw [h, hy] at hx
        exact absurd (Option.some.inj hx).symm he
      · clear ht hn h hx hy he
        generalize elQ.lt true a = A at *
        generalize elQ.lt true b = B at *
        generalize (a.length : Int) = M at *
        generalize TV.agg [.i .i64 x.1, .i .i64 x.2] = V at *
        generalize TV.agg [.i .i64 y.1, .i .i64 y.2] = U at *
        generalize (k : Int) = K at *
        rw [l71_1, den_loop]
        simp (disch := omega) [l71_1, b71_0, gX0, gX1, gX2, gX3, gX4, gX5, gX6, gX7, gX8, gX9, gXa, gXb, gXc, gXd, gXe, gXf, gXg, gXh, gXi, gXj, gXk, gXl, gXm, gXn, gXo, gXp, gXq, gXr, gXs, gXt, gXu, gXv, gXw, gXx, k_mv, gXy, gXz, gX01, gX11, gX21, gX31, gX41, gX51, gX61, gX71, gX81, gX91, gXa1, gXb1, gXc1, gXd1, gXe1, gXf1, gXg1, gXh1, gXi1, gXj1, gXk1, gXl1, gXm1, gXn1, gXo1, gXp1, gXq1, gXr1, gXs1, gXt1, gXu1, k_mn, k_mx, gXv1, gXw1, gXx1, gXy1, gXz1, gX02, gX12, gX22, gX32, gX42, gX52, gX62, gX72, Dn.setLast, Dn.getLast, evalO, mapO, Dn.get, putE, gX82, gX92, gXa2, gXb2, TV.one, TV.isAgg, Dn.part, gXc2, negb, at0, at1, at2, at3, at4, dT, dF, gXd2, Option.bind_some, Option.map_some, dd, p1, p2, q1, q2, eq]

theorem fn71 {pg : Pg} (hF : Free pg) (a b : List (Int × Int)) (ha : a.length ≤ 1000000) (hb : b.length ≤ 1000000) : PFn pg 71 [elQ.lt true a, elQ.lt true b] (.b (decide (a = b))) := by
  refine .of1 (x := .ret) (e := [(4, .b (decide (a = b)))]) (H' := []) (hF.S _ _) (d := d71) (by rw [hF.F]; rfl) rfl ?_ (.inl rfl) rfl (by simp [sn_i, sn_b, gXe2, gXf2, gXg2, gXh2, gXi2, gXj2, gXk2, gXl2, gXm2, gXn2, gXo2, gXp2, mapO, elems])
  have l1 := lnEb elQ true a
  have l2 := lnEb elQ true b
  by_cases hn : a.length = b.length
  · obtain ⟨r1, r2⟩ := l71_1_all (pg := pg) hn ha a.length 0 (by omega) rfl
    rw [← hn] at l2
    simp only [Int.natCast_zero] at r1 r2
    by_cases he : a = b
    · obtain ⟨e, r⟩ := r1 he
      rw [decide_eq_true he]
      clear r1 r2 hn he
      generalize elQ.lt true a = A at *
      generalize elQ.lt true b = B at *
      generalize (a.length : Int) = M at *
      simp (disch := omega) [d71, c71, zipE, gX0, gX1, gX2, gX3, gX4, gX5, gX6, gX7, gX8, gX9, gXa, gXb, gXc, gXd, gXe, gXf, gXg, gXh, gXi, gXj, gXk, gXl, gXm, gXn, gXo, gXp, gXq, gXr, gXs, gXt, gXu, gXv, gXw, gXx, k_mv, gXy, gXz, gX01, gX11, gX21, gX31, gX41, gX51, gX61, gX71, gX81, gX91, gXa1, gXb1, gXc1, gXd1, gXe1, gXf1, gXg1, gXh1, gXi1, gXj1, gXk1, gXl1, gXm1, gXn1, gXo1, gXp1, gXq1, gXr1, gXs1, gXt1, gXu1, k_mn, k_mx, gXv1, gXw1, gXx1, gXy1, gXz1, gX02, gX12, gX22, gX32, gX42, gX52, gX62, gX72, Dn.setLast, Dn.getLast, evalO, mapO, Dn.get, putE, gX82, gX92, gXa2, gXb2, TV.one, TV.isAgg, Dn.part, gXc2, negb, at0, at1, at2, at3, at4, dT, dF, gXd2, Option.bind_some, Option.map_some, l1, l2, go_denK (c := l71_1) rfl, r]
    · have r := r2 he
      rw [decide_eq_false he]
      clear r1 r2 hn he
      generalize elQ.lt true a = A at *
      generalize elQ.lt true b = B at *
      generalize (a.length : Int) = M at *
      simp (disch := omega) [d71, c71, zipE, gX0, gX1, gX2, gX3, gX4, gX5, gX6, gX7, gX8, gX9, gXa, gXb, gXc, gXd, gXe, gXf, gXg, gXh, gXi, gXj, gXk, gXl, gXm, gXn, gXo, gXp, gXq, gXr, gXs, gXt, gXu, gXv, gXw, gXx, k_mv, gXy, gXz, gX01, gX11, gX21, gX31, gX41, gX51, gX61, gX71, gX81, gX91, gXa1, gXb1, gXc1, gXd1, gXe1, gXf1, gXg1, gXh1, gXi1, gXj1, gXk1, gXl1, gXm1, gXn1, gXo1, gXp1, gXq1, gXr1, gXs1, gXt1, gXu1, k_mn, k_mx, gXv1, gXw1, gXx1, gXy1, gXz1, gX02, gX12, gX22, gX32, gX42, gX52, gX62, gX72, Dn.setLast, Dn.getLast, evalO, mapO, Dn.get, putE, gX82, gX92, gXa2, gXb2, TV.one, TV.isAgg, Dn.part, gXc2, negb, at0, at1, at2, at3, at4, dT, dF, gXd2, Option.bind_some, Option.map_some, l1, l2, go_denK (c := l71_1) rfl, r]
  · have he : a ≠ b := fun h => hn (congrArg List.length h)
    rw [decide_eq_false he]
    have hn' : ¬ (a.length : Int) = (b.length : Int) := by omega
    clear hn he
    generalize elQ.lt true a = A at *
    generalize elQ.lt true b = B at *
    generalize (a.length : Int) = M at *
    generalize (b.length : Int) = N at *
    simp (disch := omega) [d71, c71, zipE, gX0, gX1, gX2, gX3, gX4, gX5, gX6, gX7, gX8, gX9, gXa, gXb, gXc, gXd, gXe, gXf, gXg, gXh, gXi, gXj, gXk, gXl, gXm, gXn, gXo, gXp, gXq, gXr, gXs, gXt, gXu, gXv, gXw, gXx, k_mv, gXy, gXz, gX01, gX11, gX21, gX31, gX41, gX51, gX61, gX71, gX81, gX91, gXa1, gXb1, gXc1, gXd1, gXe1, gXf1, gXg1, gXh1, gXi1, gXj1, gXk1, gXl1, gXm1, gXn1, gXo1, gXp1, gXq1, gXr1, gXs1, gXt1, gXu1, k_mn, k_mx, gXv1, gXw1, gXx1, gXy1, gXz1, gX02, gX12, gX22, gX32, gX42, gX52, gX62, gX72, Dn.setLast, Dn.getLast, evalO, mapO, Dn.get, putE, gX82, gX92, gXa2, gXb2, TV.one, TV.isAgg, Dn.part, gXc2, negb, at0, at1, at2, at3, at4, dT, dF, gXd2, Option.bind_some, Option.map_some, l1, l2, hn']

theorem fn49 {pg : Pg} (hF : Free pg) (hQ96 : pg.Q 96 = some 2) {S T : TV} {ms ls : List (List Int)} (hS : SSV S ms) (hT : SSV T ls) (h0 : chkD ls = 0) (h1 : chkD ms = 0) : PFn pg 49 [S, T] (.tup [.b (decide (sumsL ms = sumsL ls)), .i .i64 0]) := by
  have rl := row_chk h0
  have rm := row_chk h1
  have hTc : T.cells = [T] := by rcases hT with ⟨rfl, _⟩ | ⟨b, es, rfl, _⟩ <;> rfl
  have hSc : S.cells = [S] := by rcases hS with ⟨rfl, _⟩ | ⟨b, es, rfl, _⟩ <;> rfl
  obtain ⟨H1, hH1⟩ : ∃ H1, H1 = ([.cells [S, T] false] : Heap) := ⟨_, rfl⟩
  have bs : dkc pg (den pg) (.bsl false [.nilsl] false 2 [0, 1]) [S, T] [] = some (.sl 0 0 1 false 2 (some 2), H1) := by
    rw [hH1]; simp [dkc, dk, fillP, repl, put2, hT.one, hS.one, hTc, hSc]
  have ix : dkc pg (den pg) (.ixS 1 false) [.sl 0 0 1 false 2 (some 2), .i .i64 0] H1 = some (.ref 0 0, H1) := by simp [dkc, dk, bound]
  have ix2 : dkc pg (den pg) (.ixS 1 false) [.sl 0 0 1 false 2 (some 2), .i .i64 1] H1 = some (.ref 0 1, H1) := by simp [dkc, dk, bound]
  have ld : ldC H1[0]? 1 false 0 H1 = some (S, H1) := by rw [hH1]; simp [ldC, Dn.part, up, hS.noagg]
  have ld2 : ldC H1[0]? 1 false 1 H1 = some (T, H1) := by rw [hH1]; simp [ldC, Dn.part, up, hT.noagg]
  have c55 := call55 (pg := pg) hF hT (by have := rl.le; omega) (fun x hx => by have := (rl.all x hx).le; omega) H1
  have c55' := call55 (pg := pg) hF hS (by have := rm.le; omega) (fun x hx => by have := (rm.all x hx).le; omega) H1
  rw [h1] at c55'
  rw [h0] at c55
  have c70 := call70 (pg := pg) hF hQ96 hS rm.le rm.all H1
  have c70' := call70 (pg := pg) hF hQ96 hT rl.le rl.all H1
  have b1 : (sumsL ms).length ≤ 1000000 := Nat.le_trans (sumsN_len ms 361) (by omega)
  have b2 : (sumsL ls).length ≤ 1000000 := Nat.le_trans (sumsN_len ls 361) (by omega)
  have c71 := PFn.call (fn71 (pg := pg) hF (sumsL ms) (sumsL ls) b1 b2) (args := [elQ.lt false (sumsL ms), elQ.lt false (sumsL ls)]) (ks := []) (fs := []) (cs := []) (H := H1) (by simp [snapArgs, El.lt_snap elQ_flat])
  refine .of2 (x := .ret) (e := [(4, .b (decide (sumsL ms = sumsL ls))), (5, .i .i64 0)]) (H' := H1) (hF.S _ _) (d := d49) (by rw [hF.F]; rfl) rfl ?_ (.inl rfl) rfl (by simp) (by simp [mapO, sn_i, sn_b, gXe2, gXf2, gXg2, gXh2, gXi2, gXj2, gXk2, gXl2, gXm2, gXn2, gXo2, gXp2, mapO, elems])
  generalize decide (sumsL ms = sumsL ls) = D at *
  generalize elQ.lt false (sumsL ms) = A at *
  generalize elQ.lt false (sumsL ls) = B at *
  clear hH1 hS hT
  obtain ⟨e, r3⟩ : ∃ e, den pg l49_1 [(0, S), (1, T), (11, .sl 0 0 1 false 2 (some 2)), (12, .i .i64 2), (13, .i .i64 2)] H1 = some ⟨.exit 0, (0, S) :: (1, T) :: e, H1⟩ := ⟨[(11, .sl 0 0 1 false 2 (some 2)), (12, .i .i64 2), (13, .i .i64 2), (14, .b false)], by
    rw [l49_1, den_loop]
    simp (disch := omega) [b49_0, gX0, gX1, gX2, gX3, gX4, gX5, gX6, gX7, gX8, gX9, gXa, gXb, gXc, gXd, gXe, gXf, gXg, gXh, gXi, gXj, gXk, gXl, gXm, gXn, gXo, gXp, gXq, gXr, gXs, gXt, gXu, gXv, gXw, gXx, k_mv, gXy, gXz, gX01, gX11, gX21, gX31, gX41, gX51, gX61, gX71, gX81, gX91, gXa1, gXb1, gXc1, gXd1, gXe1, gXf1, gXg1, gXh1, gXi1, gXj1, gXk1, gXl1, gXm1, gXn1, gXo1, gXp1, gXq1, gXr1, gXs1, gXt1, gXu1, k_mn, k_mx, gXv1, gXw1, gXx1, gXy1, gXz1, gX02, gX12, gX22, gX32, gX42, gX52, gX62, gX72, Dn.setLast, Dn.getLast, evalO, mapO, Dn.get, putE, gX82, gX92, gXa2, gXb2, TV.one, TV.isAgg, Dn.part, gXc2, negb, at0, at1, at2, at3, at4, dT, dF, gXd2, Option.bind_some, Option.map_some]⟩
  have r2 : den pg l49_1 [(0, S), (1, T), (11, .sl 0 0 1 false 2 (some 2)), (12, .i .i64 2), (13, .i .i64 1)] H1 = some ⟨.exit 0, (0, S) :: (1, T) :: e, H1⟩ := by
    rw [← r3, l49_1, den_loop]
    simp (disch := omega) [l49_1, b49_0, gX0, gX1, gX2, gX3, gX4, gX5, gX6, gX7, gX8, gX9, gXa, gXb, gXc, gXd, gXe, gXf, gXg, gXh, gXi, gXj, gXk, gXl, gXm, gXn, gXo, gXp, gXq, gXr, gXs, gXt, gXu, gXv, gXw, gXx, k_mv, gXy, gXz, gX01, gX11, gX21, gX31, gX41, gX51, gX61, gX71, gX81, gX91, gXa1, gXb1, gXc1, gXd1, gXe1, gXf1, gXg1, gXh1, gXi1, gXj1, gXk1, gXl1, gXm1, gXn1, gXo1, gXp1, gXq1, gXr1, gXs1, gXt1, gXu1, k_mn, k_mx, gXv1, gXw1, gXx1, gXy1, gXz1, gX02, gX12, gX22, gX32, gX42, gX52, gX62, gX72, Dn.setLast, Dn.getLast, evalO, mapO, Dn.get, putE, gX82, gX92, gXa2, gXb2, TV.one, TV.isAgg, Dn.part, gXc2, negb, at0, at1, at2, at3, at4, dT, dF, gXd2, Option.bind_some, Option.map_some, ix2, ld2, c55]
  have r : den pg l49_1 [(0, S), (1, T), (11, .sl 0 0 1 false 2 (some 2)), (12, .i .i64 2), (13, .i .i64 0)] H1 = some ⟨.exit 0, (0, S) :: (1, T) :: e, H1⟩ := by
    rw [← r2, l49_1, den_loop]
    simp (disch := omega) [l49_1, b49_0, gX0, gX1, gX2, gX3, gX4, gX5, gX6, gX7, gX8, gX9, gXa, gXb, gXc, gXd, gXe, gXf, gXg, gXh, gXi, gXj, gXk, gXl, gXm, gXn, gXo, gXp, gXq, gXr, gXs, gXt, gXu, gXv, gXw, gXx, k_mv, gXy, gXz, gX01, gX11, gX21, gX31, gX41, gX51, gX61, gX71, gX81, gX91, gXa1, gXb1, gXc1, gXd1, gXe1, gXf1, gXg1, gXh1, gXi1, gXj1, gXk1, gXl1, gXm1, gXn1, gXo1, gXp1, gXq1, gXr1, gXs1, gXt1, gXu1, k_mn, k_mx, gXv1, gXw1, gXx1, gXy1, gXz1, gX02, gX12, gX22, gX32, gX42, gX52, gX62, gX72, Dn.setLast, Dn.getLast, evalO, mapO, Dn.get, putE, gX82, gX92, gXa2, gXb2, TV.one, TV.isAgg, Dn.part, gXc2, negb, at0, at1, at2, at3, at4, dT, dF, gXd2, Option.bind_some, Option.map_some, ix, ld, c55']
  have ln : ∀ K, lenK 0 (.sl 0 0 1 false 2 (some 2)) K = some 2 := fun K => rfl
  simp (disch := omega) [d49, c49, zipE, gX0, gX1, gX2, gX3, gX4, gX5, gX6, gX7, gX8, gX9, gXa, gXb, gXc, gXd, gXe, gXf, gXg, gXh, gXi, gXj, gXk, gXl, gXm, gXn, gXo, gXp, gXq, gXr, gXs, gXt, gXu, gXv, gXw, gXx, k_mv, gXy, gXz, gX01, gX11, gX21, gX31, gX41, gX51, gX61, gX71, gX81, gX91, gXa1, gXb1, gXc1, gXd1, gXe1, gXf1, gXg1, gXh1, gXi1, gXj1, gXk1, gXl1, gXm1, gXn1, gXo1, gXp1, gXq1, gXr1, gXs1, gXt1, gXu1, k_mn, k_mx, gXv1, gXw1, gXx1, gXy1, gXz1, gX02, gX12, gX22, gX32, gX42, gX52, gX62, gX72, Dn.setLast, Dn.getLast, evalO, mapO, Dn.get, putE, gX82, gX92, gXa2, gXb2, TV.one, TV.isAgg, Dn.part, gXc2, negb, at0, at1, at2, at3, at4, dT, dF, gXd2, Option.bind_some, Option.map_some, bs, ln, go_denK (c := l49_1) rfl, r, c70, c70', c71]

end Go.Proofs.Try.Dn

