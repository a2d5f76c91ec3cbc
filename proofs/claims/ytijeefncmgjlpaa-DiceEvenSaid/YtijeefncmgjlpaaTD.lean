/-
  The reference's search, walked: the two branches.
-/
import Derived.Test.YtijeefncmgjlpaaTC
set_option linter.unusedSimpArgs false
set_option linter.unusedVariables false

set_option maxHeartbeats 4000000
set_option maxRecDepth 100000
namespace Go.Proofs.Try.Dn
open Go.Dn

theorem own_RowS {H : Heap} {t : TV} {l : List Int} (h : elI.Own H t l) (hl : l ≠ []) : RowS H t l := by
  refine ⟨hl, h.view, ?_⟩
  rcases h with ⟨_, h⟩ | ⟨_, id, ag, c, rfl, _⟩
  · exact absurd h hl
  · exact ⟨id, rfl⟩

theorem row_next {pg : Pg} {H : Heap} {tA : TV} {a : List Int} (ha : RowS H tA a) (hl : a.length + 1 ≤ 1000000) (x : Int) :
    ∃ t1 H1 H1' t2 H2 W, appRun 1 false 8 .nilsl tA H = some (t1, H1) ∧ dkc pg (den pg) (.bsl false [.i .i64 0] false 1 [0]) [.i .i64 x] H1 = some (W, H1') ∧ appRun 1 false 8 t1 W H1' = some (t2, H2) ∧ RowS H2 t2 (a ++ [x]) ∧ (∀ j, j < H.length → H2[j]? = H[j]?) ∧ H.length ≤ H2.length := by
  obtain ⟨t1, H1, a1, a2, a3, a4, a5⟩ := appI (H := H) (t := .nilsl) (l := []) (.inl ⟨rfl, rfl⟩) ha.2.1 (by simp; omega)
  rw [List.nil_append] at a2
  have lt1 := a2.lt
  obtain ⟨t2, H2, b1, b2, b3, b4, b5⟩ := appI (a2.mono (H' := H1 ++ [.cells [.i .i64 x] false]) fun id hid => List.getElem?_append_left (lt1 id hid)) (one_view H1 x) (by simpa using hl)
  have n1 : ∀ id, t1.idOf = some id → H.length ≤ id := by
    intro id hid
    rcases a5 with rfl | a5
    · cases hid
    · exact a5 id hid
  simp only [List.length_append, List.length_singleton] at b3 b4
  refine ⟨t1, H1, H1 ++ [.cells [.i .i64 x] false], t2, H2, .sl H1.length 0 1 false 1 (some 1), a1, rfl, b1, own_RowS b2 (by simp), fun j hj => ?_, by omega⟩
  rw [b4 j (by omega) (fun he => by have := n1 j he; omega), List.getElem?_append_left (by omega), a4 j hj (by simp [TV.idOf])]

theorem row_ix0 {pg : Pg} {H : Heap} {t : TV} {l : List Int} {d : Int} (h : RowS H t l) (hd : l[0]? = some d) : ∃ p, dkc pg (den pg) (.ixS 1 false) [t, .i .i64 0] H = some (p, H) ∧ dkc pg (den pg) (.ld 1 false) [p] H = some (.i .i64 d, H) := by
  obtain ⟨p, p1, p2⟩ := ixI (pg := pg) (R := den pg) h.2.1 hd
  exact ⟨p, p1, p2⟩

def Gr89 (pg : Pg) (n m : Nat) (tA tB W O : TV) (H : Heap) (R : List PL) : Prop :=
  ∃ O' H', bodyRun pg (den pg) 89 [.i .i64 (n : Int), .i .i64 (m : Int), tA, tB, W, O] H = some (O', H') ∧ PIn H' O' R ∧ (∀ j, j < H.length → H'[j]? = H[j]?) ∧ H.length ≤ H'.length

theorem die_lastN {a : List Int} (hD : DieL 60 a) : ∃ z, a[a.length - 1]? = some z ∧ a.getLastD 0 = z ∧ 0 ≤ z ∧ z ≤ 60 := by
  obtain ⟨z, h1, h2, h3, h4, _⟩ := die_last hD
  exact ⟨z, h1, h2, h3, h4⟩

theorem r89_A {pg : Pg} {n m : Nat} {tA tB W O : TV} {a b : List Int} {d : Int} {X R : List PL} {H : Heap} {z : Int} (ha : RowS H tA a) (hb : RowS H tB b) (hA : DieL 60 a) (hd : b[0]? = some d) (hd6 : 0 ≤ d ∧ d ≤ 60) (hz : 0 ≤ z ∧ z ≤ 1000) (hX : PIn H O X)
    (hrec : fits n a (z - d) = true → ∀ (t' : TV) (H2 : Heap), RowS H2 t' (a ++ [z - d]) → (∀ j, j < H.length → H2[j]? = H[j]?) → H.length ≤ H2.length → Gr89 pg n m t' tB W O H2 R) (K : List Fr) :
    ∃ O' H' e, (e = [] ∨ ∃ u v, e = [(18, u), (106, v)]) ∧ go pg (den pg) (.c r89_5 :: K) .normal [(0, .i .i64 (n : Int)), (1, .i .i64 (m : Int)), (2, tA), (3, tB), (4, W), (5, O), (14, .i .i64 z), (67, .b false)] H =
      go pg (den pg) K .normal ((0, .i .i64 (n : Int)) :: (1, .i .i64 (m : Int)) :: (2, tA) :: (3, tB) :: (4, W) :: (5, O') :: (14, .i .i64 z) :: e) H' ∧ PIn H' O' (if fits n a (z - d) = true then R else X) ∧ (∀ j, j < H.length → H'[j]? = H[j]?) ∧ H.length ≤ H'.length := by
  obtain ⟨p, p1, p2⟩ := row_ix0 (pg := pg) hb hd
  obtain ⟨y, y1, y2, y3, y4⟩ := die_lastN hA
  have hap := hA.pos
  have ha8 := hA.le
  obtain ⟨q, q1, q2⟩ := ixI (pg := pg) (R := den pg) ha.2.1 y1
  obtain ⟨x, hx⟩ : ∃ x, x = z - d := ⟨_, rfl⟩
  have wx : wrapR .i64 (z - d) = .i .i64 x := by rw [hx]; exact gXd2 (by omega)
  have ln : ∀ K, (lenK 0 tA K).map (fun (n : Nat) => TV.i .i64 (n : Int)) = some (.i .i64 (a.length : Int)) := fun K => by rw [ha.2.1.lenK]; rfl
  have wl : wrapR .i64 ((a.length : Int) - 1) = .i .i64 ((a.length - 1 : Nat) : Int) := by rw [show (a.length : Int) - 1 = ((a.length - 1 : Nat) : Int) by omega]; exact gXd2 (by omega)
  rw [← hx] at hrec ⊢
  have hf : fits n a x = (decide (a.length < n) && decide (y ≤ x) && decide (x ≤ 60)) := by unfold fits; rw [y2]
  by_cases h1 : a.length < n
  · have d1 : decide ((a.length : Int) < (n : Int)) = true := dT (by omega)
    by_cases h2 : y ≤ x
    · have d2 : decide (x ≥ y) = true := dT h2
      by_cases h3 : x ≤ 60
      · have d3 : decide (x ≤ 60) = true := dT h3
        have hft : fits n a x = true := by rw [hf, decide_eq_true h1, decide_eq_true h2, d3]; rfl
        rw [if_pos hft]
        obtain ⟨t1, H1, H1', t2, H2, Wx, a1, a2, a3, a4, a5, a6⟩ := row_next (pg := pg) ha (by omega) x
        obtain ⟨O', H', g1, g2, g3, g4⟩ := hrec hft t2 H2 a4 a5 a6
        refine ⟨O', H', [], .inl rfl, ?_, g2, fun j hj => by rw [g3 j (by omega), a5 j hj], by omega⟩
        clear hrec hf hft a4 a5 g2 g3 hX ha hb hA
        generalize ((a.length - 1 : Nat) : Int) = l1 at *
        generalize (a.length : Int) = l0 at *
        generalize (n : Int) = nn at *
        generalize (m : Int) = mm at *
        simp (maxSteps := 1000000) (disch := omega) [r89_5, gX0, gX1, gX2, gX3, gX4, gX5, gX6, gX7, gX8, gX9, gXa, gXb, gXc, gXd, gXe, gXf, gXg, gXh, gXi, gXj, gXk, gXl, gXm, gXn, gXo, gXp, gXq, gXr, gXs, gXt, gXu, gXv, gXw, gXx, k_mv, gXy, gXz, gX01, gX11, gX21, gX31, gX41, gX51, gX61, gX71, gX81, gX91, gXa1, gXb1, gXc1, gXd1, gXe1, gXf1, gXg1, gXh1, gXi1, gXj1, gXk1, gXl1, gXm1, gXn1, gXo1, gXp1, gXq1, gXr1, gXs1, gXt1, gXu1, k_mn, k_mx, gXv1, gXw1, gXx1, gXy1, gXz1, gX02, gX12, gX22, gX32, gX42, gX52, gX62, gX72, Dn.setLast, Dn.getLast, evalO, mapO, Dn.get, putE, gX82, gX92, gXa2, gXb2, TV.one, TV.isAgg, Dn.part, gXc2, negb, at0, at1, at2, at3, at4, dT, dF, gXd2, Option.bind_some, Option.map_some, p1, p2, wx, ln, wl, q1, q2, d1, d2, d3, a1, a2, a3, sh_fn, g1, -gXx1]
      · have d3 : decide (x ≤ 60) = false := dF h3
        have hft : ¬ fits n a x = true := by rw [hf, d3]; simp
        rw [if_neg hft]
        refine ⟨O, H, [(18, .i .i64 x), (106, .b false)], .inr ⟨_, _, rfl⟩, ?_, hX, fun j hj => rfl, Nat.le_refl _⟩
        clear hrec hf hft hX ha hb hA
        generalize ((a.length - 1 : Nat) : Int) = l1 at *
        generalize (a.length : Int) = l0 at *
        generalize (n : Int) = nn at *
        generalize (m : Int) = mm at *
        simp (maxSteps := 1000000) (disch := omega) [r89_5, gX0, gX1, gX2, gX3, gX4, gX5, gX6, gX7, gX8, gX9, gXa, gXb, gXc, gXd, gXe, gXf, gXg, gXh, gXi, gXj, gXk, gXl, gXm, gXn, gXo, gXp, gXq, gXr, gXs, gXt, gXu, gXv, gXw, gXx, k_mv, gXy, gXz, gX01, gX11, gX21, gX31, gX41, gX51, gX61, gX71, gX81, gX91, gXa1, gXb1, gXc1, gXd1, gXe1, gXf1, gXg1, gXh1, gXi1, gXj1, gXk1, gXl1, gXm1, gXn1, gXo1, gXp1, gXq1, gXr1, gXs1, gXt1, gXu1, k_mn, k_mx, gXv1, gXw1, gXx1, gXy1, gXz1, gX02, gX12, gX22, gX32, gX42, gX52, gX62, gX72, Dn.setLast, Dn.getLast, evalO, mapO, Dn.get, putE, gX82, gX92, gXa2, gXb2, TV.one, TV.isAgg, Dn.part, gXc2, negb, at0, at1, at2, at3, at4, dT, dF, gXd2, Option.bind_some, Option.map_some, p1, p2, wx, ln, wl, q1, q2, d1, d2, d3]
    · have d2 : decide (x ≥ y) = false := dF h2
      have hft : ¬ fits n a x = true := by rw [hf, decide_eq_false h2]; simp
      rw [if_neg hft]
      refine ⟨O, H, [(18, .i .i64 x), (106, .b false)], .inr ⟨_, _, rfl⟩, ?_, hX, fun j hj => rfl, Nat.le_refl _⟩
      clear hrec hf hft hX ha hb hA
      generalize ((a.length - 1 : Nat) : Int) = l1 at *
      generalize (a.length : Int) = l0 at *
      generalize (n : Int) = nn at *
      generalize (m : Int) = mm at *
      simp (maxSteps := 1000000) (disch := omega) [r89_5, gX0, gX1, gX2, gX3, gX4, gX5, gX6, gX7, gX8, gX9, gXa, gXb, gXc, gXd, gXe, gXf, gXg, gXh, gXi, gXj, gXk, gXl, gXm, gXn, gXo, gXp, gXq, gXr, gXs, gXt, gXu, gXv, gXw, gXx, k_mv, gXy, gXz, gX01, gX11, gX21, gX31, gX41, gX51, gX61, gX71, gX81, gX91, gXa1, gXb1, gXc1, gXd1, gXe1, gXf1, gXg1, gXh1, gXi1, gXj1, gXk1, gXl1, gXm1, gXn1, gXo1, gXp1, gXq1, gXr1, gXs1, gXt1, gXu1, k_mn, k_mx, gXv1, gXw1, gXx1, gXy1, gXz1, gX02, gX12, gX22, gX32, gX42, gX52, gX62, gX72, Dn.setLast, Dn.getLast, evalO, mapO, Dn.get, putE, gX82, gX92, gXa2, gXb2, TV.one, TV.isAgg, Dn.part, gXc2, negb, at0, at1, at2, at3, at4, dT, dF, gXd2, Option.bind_some, Option.map_some, p1, p2, wx, ln, wl, q1, q2, d1, d2]
  · have d1 : decide ((a.length : Int) < (n : Int)) = false := dF (by omega)
    have hft : ¬ fits n a x = true := by rw [hf, decide_eq_false h1]; simp
    rw [if_neg hft]
    refine ⟨O, H, [(18, .i .i64 x), (106, .b false)], .inr ⟨_, _, rfl⟩, ?_, hX, fun j hj => rfl, Nat.le_refl _⟩
    clear hrec hf hft hX ha hb hA
    generalize ((a.length - 1 : Nat) : Int) = l1 at *
    generalize (a.length : Int) = l0 at *
    generalize (n : Int) = nn at *
    generalize (m : Int) = mm at *
    simp (maxSteps := 1000000) (disch := omega) [r89_5, gX0, gX1, gX2, gX3, gX4, gX5, gX6, gX7, gX8, gX9, gXa, gXb, gXc, gXd, gXe, gXf, gXg, gXh, gXi, gXj, gXk, gXl, gXm, gXn, gXo, gXp, gXq, gXr, gXs, gXt, gXu, gXv, gXw, gXx, k_mv, gXy, gXz, gX01, gX11, gX21, gX31, gX41, gX51, gX61, gX71, gX81, gX91, gXa1, gXb1, gXc1, gXd1, gXe1, gXf1, gXg1, gXh1, gXi1, gXj1, gXk1, gXl1, gXm1, gXn1, gXo1, gXp1, gXq1, gXr1, gXs1, gXt1, gXu1, k_mn, k_mx, gXv1, gXw1, gXx1, gXy1, gXz1, gX02, gX12, gX22, gX32, gX42, gX52, gX62, gX72, Dn.setLast, Dn.getLast, evalO, mapO, Dn.get, putE, gX82, gX92, gXa2, gXb2, TV.one, TV.isAgg, Dn.part, gXc2, negb, at0, at1, at2, at3, at4, dT, dF, gXd2, Option.bind_some, Option.map_some, p1, p2, wx, ln, wl, q1, q2, d1]

theorem r89_B {pg : Pg} {n m : Nat} {tA tB W O : TV} {a b : List Int} {c : Int} {X R : List PL} {H : Heap} {z : Int} {e0 : Env} (he0 : e0 = [] ∨ ∃ u v, e0 = [(18, u), (106, v)]) (ha : RowS H tA a) (hb : RowS H tB b) (hB : DieL 60 b) (hc : a[0]? = some c) (hc6 : 0 ≤ c ∧ c ≤ 60) (hz : 0 ≤ z ∧ z ≤ 1000) (hX : PIn H O X)
    (hrec : fits m b (z - c) = true → ∀ (t' : TV) (H2 : Heap), RowS H2 t' (b ++ [z - c]) → (∀ j, j < H.length → H2[j]? = H[j]?) → H.length ≤ H2.length → Gr89 pg n m tA t' W O H2 R) :
    ∃ O' H', go pg (den pg) [.c (.seq r89_6 (.seq r89_7 r89_8))] .normal ((0, .i .i64 (n : Int)) :: (1, .i .i64 (m : Int)) :: (2, tA) :: (3, tB) :: (4, W) :: (5, O) :: (14, .i .i64 z) :: e0) H = some ⟨.ret, [(12, O')], H'⟩ ∧ PIn H' O' (if fits m b (z - c) = true then R else X) ∧ (∀ j, j < H.length → H'[j]? = H[j]?) ∧ H.length ≤ H'.length := by
  obtain ⟨p, p1, p2⟩ := row_ix0 (pg := pg) ha hc
  obtain ⟨y, y1, y2, y3, y4⟩ := die_lastN hB
  have hap := hB.pos
  have ha8 := hB.le
  obtain ⟨q, q1, q2⟩ := ixI (pg := pg) (R := den pg) hb.2.1 y1
  obtain ⟨x, hx⟩ : ∃ x, x = z - c := ⟨_, rfl⟩
  have wx : wrapR .i64 (z - c) = .i .i64 x := by rw [hx]; exact gXd2 (by omega)
  have ln : ∀ K, (lenK 0 tB K).map (fun (n : Nat) => TV.i .i64 (n : Int)) = some (.i .i64 (b.length : Int)) := fun K => by rw [hb.2.1.lenK]; rfl
  have wl : wrapR .i64 ((b.length : Int) - 1) = .i .i64 ((b.length - 1 : Nat) : Int) := by rw [show (b.length : Int) - 1 = ((b.length - 1 : Nat) : Int) by omega]; exact gXd2 (by omega)
  rw [← hx] at hrec ⊢
  have hf : fits m b x = (decide (b.length < m) && decide (y ≤ x) && decide (x ≤ 60)) := by unfold fits; rw [y2]
  by_cases h1 : b.length < m
  · have d1 : decide ((b.length : Int) < (m : Int)) = true := dT (by omega)
    by_cases h2 : y ≤ x
    · have d2 : decide (x ≥ y) = true := dT h2
      by_cases h3 : x ≤ 60
      · have d3 : decide (x ≤ 60) = true := dT h3
        have hft : fits m b x = true := by rw [hf, decide_eq_true h1, decide_eq_true h2, d3]; rfl
        rw [if_pos hft]
        obtain ⟨t1, H1, H1', t2, H2, Wx, a1, a2, a3, a4, a5, a6⟩ := row_next (pg := pg) hb (by omega) x
        obtain ⟨O', H', g1, g2, g3, g4⟩ := hrec hft t2 H2 a4 a5 a6
        refine ⟨O', H', ?_, g2, fun j hj => by rw [g3 j (by omega), a5 j hj], by omega⟩
        clear hrec hf hft a4 a5 g2 g3 hX ha hb hB
        generalize ((b.length - 1 : Nat) : Int) = l1 at *
        generalize (b.length : Int) = l0 at *
        generalize (n : Int) = nn at *
        generalize (m : Int) = mm at *
        rcases he0 with rfl | ⟨u, v, rfl⟩ <;>
        simp (maxSteps := 1000000) (disch := omega) [r89_6, r89_7, r89_8, gX0, gX1, gX2, gX3, gX4, gX5, gX6, gX7, gX8, gX9, gXa, gXb, gXc, gXd, gXe, gXf, gXg, gXh, gXi, gXj, gXk, gXl, gXm, gXn, gXo, gXp, gXq, gXr, gXs, gXt, gXu, gXv, gXw, gXx, k_mv, gXy, gXz, gX01, gX11, gX21, gX31, gX41, gX51, gX61, gX71, gX81, gX91, gXa1, gXb1, gXc1, gXd1, gXe1, gXf1, gXg1, gXh1, gXi1, gXj1, gXk1, gXl1, gXm1, gXn1, gXo1, gXp1, gXq1, gXr1, gXs1, gXt1, gXu1, k_mn, k_mx, gXv1, gXw1, gXx1, gXy1, gXz1, gX02, gX12, gX22, gX32, gX42, gX52, gX62, gX72, Dn.setLast, Dn.getLast, evalO, mapO, Dn.get, putE, gX82, gX92, gXa2, gXb2, TV.one, TV.isAgg, Dn.part, gXc2, negb, at0, at1, at2, at3, at4, dT, dF, gXd2, Option.bind_some, Option.map_some, p1, p2, wx, ln, wl, q1, q2, d1, d2, d3, a1, a2, a3, sh_fn, g1, -gXx1]
      · have d3 : decide (x ≤ 60) = false := dF h3
        have hft : ¬ fits m b x = true := by rw [hf, d3]; simp
        rw [if_neg hft]
        refine ⟨O, H, ?_, hX, fun j hj => rfl, Nat.le_refl _⟩
        clear hrec hf hft hX ha hb hB
        generalize ((b.length - 1 : Nat) : Int) = l1 at *
        generalize (b.length : Int) = l0 at *
        generalize (n : Int) = nn at *
        generalize (m : Int) = mm at *
        rcases he0 with rfl | ⟨u, v, rfl⟩ <;>
        simp (maxSteps := 1000000) (disch := omega) [r89_6, r89_7, r89_8, gX0, gX1, gX2, gX3, gX4, gX5, gX6, gX7, gX8, gX9, gXa, gXb, gXc, gXd, gXe, gXf, gXg, gXh, gXi, gXj, gXk, gXl, gXm, gXn, gXo, gXp, gXq, gXr, gXs, gXt, gXu, gXv, gXw, gXx, k_mv, gXy, gXz, gX01, gX11, gX21, gX31, gX41, gX51, gX61, gX71, gX81, gX91, gXa1, gXb1, gXc1, gXd1, gXe1, gXf1, gXg1, gXh1, gXi1, gXj1, gXk1, gXl1, gXm1, gXn1, gXo1, gXp1, gXq1, gXr1, gXs1, gXt1, gXu1, k_mn, k_mx, gXv1, gXw1, gXx1, gXy1, gXz1, gX02, gX12, gX22, gX32, gX42, gX52, gX62, gX72, Dn.setLast, Dn.getLast, evalO, mapO, Dn.get, putE, gX82, gX92, gXa2, gXb2, TV.one, TV.isAgg, Dn.part, gXc2, negb, at0, at1, at2, at3, at4, dT, dF, gXd2, Option.bind_some, Option.map_some, p1, p2, wx, ln, wl, q1, q2, d1, d2, d3]
    · have d2 : decide (x ≥ y) = false := dF h2
      have hft : ¬ fits m b x = true := by rw [hf, decide_eq_false h2]; simp
      rw [if_neg hft]
      refine ⟨O, H, ?_, hX, fun j hj => rfl, Nat.le_refl _⟩
      clear hrec hf hft hX ha hb hB
      generalize ((b.length - 1 : Nat) : Int) = l1 at *
      generalize (b.length : Int) = l0 at *
      generalize (n : Int) = nn at *
      generalize (m : Int) = mm at *
      rcases he0 with rfl | ⟨u, v, rfl⟩ <;>
      simp (maxSteps := 1000000) (disch := omega) [r89_6, r89_7, r89_8, gX0, gX1, gX2, gX3, gX4, gX5, gX6, gX7, gX8, gX9, gXa, gXb, gXc, gXd, gXe, gXf, gXg, gXh, gXi, gXj, gXk, gXl, gXm, gXn, gXo, gXp, gXq, gXr, gXs, gXt, gXu, gXv, gXw, gXx, k_mv, gXy, gXz, gX01, gX11, gX21, gX31, gX41, gX51, gX61, gX71, gX81, gX91, gXa1, gXb1, gXc1, gXd1, gXe1, gXf1, gXg1, gXh1, gXi1, gXj1, gXk1, gXl1, gXm1, gXn1, gXo1, gXp1, gXq1, gXr1, gXs1, gXt1, gXu1, k_mn, k_mx, gXv1, gXw1, gXx1, gXy1, gXz1, gX02, gX12, gX22, gX32, gX42, gX52, gX62, gX72, Dn.setLast, Dn.getLast, evalO, mapO, Dn.get, putE, gX82, gX92, gXa2, gXb2, TV.one, TV.isAgg, Dn.part, gXc2, negb, at0, at1, at2, at3, at4, dT, dF, gXd2, Option.bind_some, Option.map_some, p1, p2, wx, ln, wl, q1, q2, d1, d2]
  · have d1 : decide ((b.length : Int) < (m : Int)) = false := dF (by omega)
    have hft : ¬ fits m b x = true := by rw [hf, decide_eq_false h1]; simp
    rw [if_neg hft]
    refine ⟨O, H, ?_, hX, fun j hj => rfl, Nat.le_refl _⟩
    clear hrec hf hft hX ha hb hB
    generalize ((b.length - 1 : Nat) : Int) = l1 at *
    generalize (b.length : Int) = l0 at *
    generalize (n : Int) = nn at *
    generalize (m : Int) = mm at *
    rcases he0 with rfl | ⟨u, v, rfl⟩ <;>
    simp (maxSteps := 1000000) (disch := omega) [r89_6, r89_7, r89_8, gX0, gX1, gX2, gX3, gX4, gX5, gX6, gX7, gX8, gX9, gXa, gXb, gXc, gXd, gXe, gXf, gXg, gXh, gXi, gXj, gXk, gXl, gXm, gXn, gXo, gXp, gXq, gXr, gXs, gXt, gXu, gXv, gXw, gXx, k_mv, gXy, gXz, gX01, gX11, gX21, gX31, gX41, gX51, gX61, gX71, gX81, gX91, gXa1, gXb1, gXc1, gXd1, gXe1, gXf1, gXg1, gXh1, gXi1, gXj1, gXk1, gXl1, gXm1, gXn1, gXo1, gXp1, gXq1, gXr1, gXs1, gXt1, gXu1, k_mn, k_mx, gXv1, gXw1, gXx1, gXy1, gXz1, gX02, gX12, gX22, gX32, gX42, gX52, gX62, gX72, Dn.setLast, Dn.getLast, evalO, mapO, Dn.get, putE, gX82, gX92, gXa2, gXb2, TV.one, TV.isAgg, Dn.part, gXc2, negb, at0, at1, at2, at3, at4, dT, dF, gXd2, Option.bind_some, Option.map_some, p1, p2, wx, ln, wl, q1, q2, d1]

end Go.Proofs.Try.Dn

