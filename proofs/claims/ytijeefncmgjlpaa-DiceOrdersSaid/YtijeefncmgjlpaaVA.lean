/-
  Dice: the reference's Orders.
-/
import Derived.Test.YtijeefncmgjlpaaV9
import Derived.Test.YtijeefncmgjlpaaV8
set_option linter.unusedSimpArgs false
set_option linter.unusedVariables false

set_option maxHeartbeats 4000000
set_option maxRecDepth 100000
namespace Go.Proofs.Try.Dn
open Go.Dn

theorem l74_1_all {pg : Pg} {X Lv O : TV} {l : List Nat} {H : Heap} (hLv : elI.View H Lv (ci l)) (h6 : l.length ≤ 1000) {i : Nat} : ∀ (r k : Nat) (u : Bool), k + r = l.length →
    ∃ e, den pg l74_1 [(0, X), (1, Lv), (2, O), (7, .i .i64 (i : Int)), (8, .b u), (9, .i .i64 (k : Int))] H = some ⟨.exit 2, [(0, X), (1, Lv), (2, O), (7, .i .i64 (i : Int)), (8, .b (u || decide (i ∈ l.drop k)))] ++ e, H⟩
  | 0, k, u, hk => by
    obtain rfl : k = l.length := by omega
    have ln : ∀ K, (lenK 0 Lv K).map (fun (n : Nat) => TV.i .i64 (n : Int)) = some (.i .i64 (l.length : Int)) := fun K => by rw [hLv.lenK, ci_len]; rfl
    refine ⟨[(9, .i .i64 (l.length : Int)), (31, .b false)], ?_⟩
    rw [List.drop_length]
    simp only [List.not_mem_nil, decide_false, Bool.or_false]
    generalize (l.length : Int) = N at *
    rw [l74_1, den_loop]
    simp (disch := omega) [b74_0, gX0, gX1, gX2, gX3, gX4, gX5, gX6, gX7, gX8, gX9, gXa, gXb, gXc, gXd, gXe, gXf, gXg, gXh, gXi, gXj, gXk, gXl, gXm, gXn, gXo, gXp, gXq, gXr, gXs, gXt, gXu, gXv, gXw, gXx, k_mv, gXy, gXz, gX01, gX11, gX21, gX31, gX41, gX51, gX61, gX71, gX81, gX91, gXa1, gXb1, gXc1, gXd1, gXe1, gXf1, gXg1, gXh1, gXi1, gXj1, gXk1, gXl1, gXm1, gXn1, gXo1, gXp1, gXq1, gXr1, gXs1, gXt1, gXu1, k_mn, k_mx, gXv1, gXw1, gXx1, gXy1, gXz1, gX02, gX12, gX22, gX32, gX42, gX52, gX62, gX72, Dn.setLast, Dn.getLast, evalO, mapO, Dn.get, putE, gX82, gX92, gXa2, gXb2, TV.one, TV.isAgg, Dn.part, gXc2, negb, at0, at1, at2, at3, at4, dT, dF, gXd2, Option.bind_some, Option.map_some, ln]
  | r + 1, k, u, hk => by
    obtain ⟨x, hx⟩ : ∃ x, l[k]? = some x := ⟨_, List.getElem?_eq_getElem (by omega)⟩
    have hdr : l.drop k = x :: l.drop (k + 1) := by
      obtain ⟨h1, rfl⟩ := List.getElem?_eq_some_iff.1 hx
      exact List.drop_eq_getElem_cons h1
    have ln : ∀ K, (lenK 0 Lv K).map (fun (n : Nat) => TV.i .i64 (n : Int)) = some (.i .i64 (l.length : Int)) := fun K => by rw [hLv.lenK, ci_len]; rfl
    obtain ⟨p, p1, p2⟩ := ixI (pg := pg) (R := den pg) hLv (ci_at hx)
    have dd : decide ((k : Int) < (l.length : Int)) = true := dT (by omega)
    have w2 : wrapR .i64 ((k : Int) + 1) = .i .i64 ((k + 1 : Nat) : Int) := by rw [← Int.natCast_succ]; exact gXd2 (by omega)
    obtain ⟨e, ih⟩ := l74_1_all (pg := pg) (X := X) (O := O) hLv h6 (i := i) r (k + 1) (u || decide (i = x)) (by omega)
    have hm : (u || decide (i ∈ l.drop k)) = ((u || decide (i = x)) || decide (i ∈ l.drop (k + 1))) := by
      rw [hdr, Bool.or_assoc]
      congr 1
      by_cases h1 : i = x <;> simp [h1]
    rw [hm]
    refine ⟨e, Eq.trans ?_ ih⟩
    have hxi : decide ((x : Int) = (i : Int)) = decide (i = x) := by
      by_cases h1 : i = x
      · rw [decide_eq_true h1, decide_eq_true (by omega)]
      · rw [decide_eq_false h1, decide_eq_false (by omega)]
    have hbe : ((x : Int) == (i : Int)) = decide (i = x) := by rw [← hxi]; rfl
    clear ih hm hdr hx hLv hk
    generalize (l.length : Int) = N at *
    generalize ((k + 1 : Nat) : Int) = K2 at *
    generalize (k : Int) = K at *
    cases u with
    | true =>
      conv => lhs; rw [l74_1, den_loop]
      simp (disch := omega) [l74_1, b74_0, gX0, gX1, gX2, gX3, gX4, gX5, gX6, gX7, gX8, gX9, gXa, gXb, gXc, gXd, gXe, gXf, gXg, gXh, gXi, gXj, gXk, gXl, gXm, gXn, gXo, gXp, gXq, gXr, gXs, gXt, gXu, gXv, gXw, gXx, k_mv, gXy, gXz, gX01, gX11, gX21, gX31, gX41, gX51, gX61, gX71, gX81, gX91, gXa1, gXb1, gXc1, gXd1, gXe1, gXf1, gXg1, gXh1, gXi1, gXj1, gXk1, gXl1, gXm1, gXn1, gXo1, gXp1, gXq1, gXr1, gXs1, gXt1, gXu1, k_mn, k_mx, gXv1, gXw1, gXx1, gXy1, gXz1, gX02, gX12, gX22, gX32, gX42, gX52, gX62, gX72, Dn.setLast, Dn.getLast, evalO, mapO, Dn.get, putE, gX82, gX92, gXa2, gXb2, TV.one, TV.isAgg, Dn.part, gXc2, negb, at0, at1, at2, at3, at4, dT, dF, gXd2, Option.bind_some, Option.map_some, ln, dd, p1, p2, w2]
    | false =>
      by_cases h1 : i = x
      · subst h1
        conv => lhs; rw [l74_1, den_loop]
        simp (disch := omega) [l74_1, b74_0, gX0, gX1, gX2, gX3, gX4, gX5, gX6, gX7, gX8, gX9, gXa, gXb, gXc, gXd, gXe, gXf, gXg, gXh, gXi, gXj, gXk, gXl, gXm, gXn, gXo, gXp, gXq, gXr, gXs, gXt, gXu, gXv, gXw, gXx, k_mv, gXy, gXz, gX01, gX11, gX21, gX31, gX41, gX51, gX61, gX71, gX81, gX91, gXa1, gXb1, gXc1, gXd1, gXe1, gXf1, gXg1, gXh1, gXi1, gXj1, gXk1, gXl1, gXm1, gXn1, gXo1, gXp1, gXq1, gXr1, gXs1, gXt1, gXu1, k_mn, k_mx, gXv1, gXw1, gXx1, gXy1, gXz1, gX02, gX12, gX22, gX32, gX42, gX52, gX62, gX72, Dn.setLast, Dn.getLast, evalO, mapO, Dn.get, putE, gX82, gX92, gXa2, gXb2, TV.one, TV.isAgg, Dn.part, gXc2, negb, at0, at1, at2, at3, at4, dT, dF, gXd2, Option.bind_some, Option.map_some, ln, dd, p1, p2, w2]
      · have h3 : ((x : Int) == (i : Int)) = false := by rw [hbe]; exact decide_eq_false h1
        rw [decide_eq_false h1]
        conv => lhs; rw [l74_1, den_loop]
        simp (disch := omega) [l74_1, b74_0, gX0, gX1, gX2, gX3, gX4, gX5, gX6, gX7, gX8, gX9, gXa, gXb, gXc, gXd, gXe, gXf, gXg, gXh, gXi, gXj, gXk, gXl, gXm, gXn, gXo, gXp, gXq, gXr, gXs, gXt, gXu, gXv, gXw, gXx, k_mv, gXy, gXz, gX01, gX11, gX21, gX31, gX41, gX51, gX61, gX71, gX81, gX91, gXa1, gXb1, gXc1, gXd1, gXe1, gXf1, gXg1, gXh1, gXi1, gXj1, gXk1, gXl1, gXm1, gXn1, gXo1, gXp1, gXq1, gXr1, gXs1, gXt1, gXu1, k_mn, k_mx, gXv1, gXw1, gXx1, gXy1, gXz1, gX02, gX12, gX22, gX32, gX42, gX52, gX62, gX72, Dn.setLast, Dn.getLast, evalO, mapO, Dn.get, putE, gX82, gX92, gXa2, gXb2, TV.one, TV.isAgg, Dn.part, gXc2, negb, at0, at1, at2, at3, at4, dT, dF, gXd2, Option.bind_some, Option.map_some, ln, dd, p1, p2, w2, h3]

def outN (ls : List (List Int)) (p : List (List Nat)) : List Int := p.map fun l => ((rs ls l (-1) : Nat) : Int)

def Spec74 (pg : Pg) (X : TV) (ls : List (List Int)) (k : Nat) : Prop := ∀ (l : List Nat) (Lv O : TV) (out : List Int) (H : Heap), l.length + k = ls.length → (∀ x ∈ l, x < ls.length) → elI.Own H Lv (ci l) → elI.Own H O out → (∀ id, Lv.idOf = some id → O.idOf ≠ some id) → out.length + (perms ls.length k l).length ≤ 10000 →
  ∃ O' H', bodyRun pg (den pg) 74 [X, Lv, O] H = some (O', H') ∧ elI.Own H' O' (out ++ outN ls (perms ls.length k l)) ∧ H.length ≤ H'.length ∧ (∀ j, j < H.length → O.idOf ≠ some j → H'[j]? = H[j]?) ∧ (∀ id, O'.idOf = some id → O.idOf = some id ∨ H.length ≤ id)

theorem l74_3_all {pg : Pg} {X : TV} {ls : List (List Int)} (hX : SSV X ls) (h6 : ls.length ≤ 6) {k : Nat} (ih : Spec74 pg X ls k) {l : List Nat} (hl : l.length + (k + 1) = ls.length) (hb : ∀ x ∈ l, x < ls.length) {Lv : TV} :
    ∀ (r i : Nat) (O : TV) (out : List Int) (H : Heap), i + r = ls.length → elI.Own H Lv (ci l) → elI.Own H O out → (∀ id, Lv.idOf = some id → O.idOf ≠ some id) → out.length + (permsF ls.length k l i r).length ≤ 10000 →
    ∃ O' H' v, den pg l74_3 [(0, X), (1, Lv), (2, O), (7, .i .i64 (i : Int))] H = some ⟨.exit 0, [(0, X), (1, Lv), (2, O'), (7, .i .i64 (ls.length : Int)), (25, v)], H'⟩ ∧ elI.Own H' O' (out ++ outN ls (permsF ls.length k l i r)) ∧ H.length ≤ H'.length ∧ (∀ j, j < H.length → O.idOf ≠ some j → H'[j]? = H[j]?) ∧ (∀ id, O'.idOf = some id → O.idOf = some id ∨ H.length ≤ id)
  | 0, i, O, out, H, hi, hL, hO, hd, hn => by
    obtain rfl : i = ls.length := by omega
    have ln := hX.len H
    refine ⟨O, H, .b false, ?_, by rw [show permsF ls.length k l ls.length 0 = [] from rfl]; show elI.Own H O (out ++ []); rw [List.append_nil]; exact hO, Nat.le_refl _, fun _ _ _ => rfl, fun id h => .inl h⟩
    rw [l74_3, den_loop]
    simp (disch := omega) [b74_2, gX0, gX1, gX2, gX3, gX4, gX5, gX6, gX7, gX8, gX9, gXa, gXb, gXc, gXd, gXe, gXf, gXg, gXh, gXi, gXj, gXk, gXl, gXm, gXn, gXo, gXp, gXq, gXr, gXs, gXt, gXu, gXv, gXw, gXx, k_mv, gXy, gXz, gX01, gX11, gX21, gX31, gX41, gX51, gX61, gX71, gX81, gX91, gXa1, gXb1, gXc1, gXd1, gXe1, gXf1, gXg1, gXh1, gXi1, gXj1, gXk1, gXl1, gXm1, gXn1, gXo1, gXp1, gXq1, gXr1, gXs1, gXt1, gXu1, k_mn, k_mx, gXv1, gXw1, gXx1, gXy1, gXz1, gX02, gX12, gX22, gX32, gX42, gX52, gX62, gX72, Dn.setLast, Dn.getLast, evalO, mapO, Dn.get, putE, gX82, gX92, gXa2, gXb2, TV.one, TV.isAgg, Dn.part, gXc2, negb, at0, at1, at2, at3, at4, dT, dF, gXd2, Option.bind_some, Option.map_some, ln]
  | r + 1, i, O, out, H, hi, hL, hO, hd, hn => by
    rw [permsF_succ, List.length_append] at hn
    have ln := hX.len H
    have dd : decide ((i : Int) < (ls.length : Int)) = true := dT (by omega)
    have w2 : wrapR .i64 ((i : Int) + 1) = .i .i64 ((i + 1 : Nat) : Int) := by rw [← Int.natCast_succ]; exact gXd2 (by omega)
    obtain ⟨e1, q1⟩ := l74_1_all (pg := pg) (X := X) (O := O) hL.view (by omega) (i := i) l.length 0 false (by omega)
    simp only [Bool.false_or, List.drop_zero, Int.natCast_zero, List.cons_append, List.nil_append] at q1
    by_cases hm : i ∈ l
    · rw [if_pos hm, List.length_nil] at hn
      rw [decide_eq_true hm] at q1
      rw [permsF_succ, if_pos hm, List.nil_append]
      obtain ⟨O', H', v, x1, x2⟩ := l74_3_all hX h6 ih hl hb (Lv := Lv) r (i + 1) O out H (by omega) hL hO hd (by omega)
      refine ⟨O', H', v, Eq.trans ?_ x1, x2⟩
      clear x1 x2 ih hL hO hX
      obtain ⟨N, hN⟩ : ∃ N, N = ls.length := ⟨_, rfl⟩
      rw [← hN] at ln dd
      generalize ((i + 1 : Nat) : Int) = I2 at *
      generalize (i : Int) = I at *
      conv => lhs; rw [l74_3, den_loop]
      simp (disch := omega) [l74_3, b74_2, gX0, gX1, gX2, gX3, gX4, gX5, gX6, gX7, gX8, gX9, gXa, gXb, gXc, gXd, gXe, gXf, gXg, gXh, gXi, gXj, gXk, gXl, gXm, gXn, gXo, gXp, gXq, gXr, gXs, gXt, gXu, gXv, gXw, gXx, k_mv, gXy, gXz, gX01, gX11, gX21, gX31, gX41, gX51, gX61, gX71, gX81, gX91, gXa1, gXb1, gXc1, gXd1, gXe1, gXf1, gXg1, gXh1, gXi1, gXj1, gXk1, gXl1, gXm1, gXn1, gXo1, gXp1, gXq1, gXr1, gXs1, gXt1, gXu1, k_mn, k_mx, gXv1, gXw1, gXx1, gXy1, gXz1, gX02, gX12, gX22, gX32, gX42, gX52, gX62, gX72, Dn.setLast, Dn.getLast, evalO, mapO, Dn.get, putE, gX82, gX92, gXa2, gXb2, TV.one, TV.isAgg, Dn.part, gXc2, negb, at0, at1, at2, at3, at4, dT, dF, gXd2, Option.bind_some, Option.map_some, ln, dd, go_denK (c := l74_1) rfl, q1, w2]
    · rw [if_neg hm] at hn
      rw [decide_eq_false hm] at q1
      rw [permsF_succ, if_neg hm]
      -- the longer list
      obtain ⟨N1, H1, a1, a2, a3, a4, a5⟩ := appI (H := H) (t := .nilsl) (l := []) (x := Lv) (k := ci l) (.inl ⟨rfl, rfl⟩) hL.view (by rw [ci_len]; simp; omega)
      rw [List.nil_append] at a2
      have a4' : ∀ j, j < H.length → H1[j]? = H[j]? := fun j hj => a4 j hj (by intro e; cases e)
      have a5' : ∀ id, N1.idOf = some id → H.length ≤ id := fun id hid => by
        rcases a5 with rfl | h
        · cases hid
        · exact h id hid
      obtain ⟨H2, hH2⟩ : ∃ H2, H2 = H1 ++ [AObj.cells [.i .i64 (i : Int)] false] := ⟨_, rfl⟩
      have bs : dkc pg (den pg) (.bsl false [.i .i64 0] false 1 [0]) [.i .i64 (i : Int)] H1 = some (.sl H1.length 0 1 false 1 (some 1), H2) := by rw [hH2]; rfl
      have ov := one_view H1 (i : Int)
      rw [← hH2] at ov
      have l2 : H2.length = H1.length + 1 := by rw [hH2]; simp
      have f2 : ∀ j, j < H1.length → H2[j]? = H1[j]? := fun j hj => by rw [hH2, List.getElem?_append_left hj]
      obtain ⟨N3, H3, b1, b2, b3, b4, b5⟩ := appI (a2.mono (H' := H2) fun id hid => f2 id (a2.lt id hid)) ov (by rw [ci_len]; simp; omega)
      rw [← ci_snoc] at b2
      have f3 : ∀ j, j < H.length → H3[j]? = H[j]? := fun j hj => by
        rw [b4 j (by omega) (fun e => by have := a5' j e; omega), f2 j (by omega), a4' j hj]
      have b5' : ∀ id, N3.idOf = some id → H.length ≤ id := fun id hid => by
        rcases b5 with rfl | h
        · exact a5' id hid
        · have := h id hid; omega
      have O3 : elI.Own H3 O out := hO.mono fun id hid => f3 id (hO.lt id hid)
      obtain ⟨O4, H4, c1, c2, c3, c4, c5⟩ := ih (l ++ [i]) N3 O out H3 (by simp; omega) (fun x hx => by
        rcases List.mem_append.1 hx with hx | hx
        · exact hb x hx
        · rw [List.mem_singleton.1 hx]; omega) b2 O3 (fun id hid e => by have := b5' id hid; have := hO.lt id e; omega) (by omega)
      have f4 : ∀ j, j < H.length → O.idOf ≠ some j → H4[j]? = H[j]? := fun j hj hne => by rw [c4 j (by omega) hne, f3 j hj]
      have L4 : elI.Own H4 Lv (ci l) := hL.mono fun id hid => f4 id (hL.lt id hid) (hd id hid)
      have d4 : ∀ id, Lv.idOf = some id → O4.idOf ≠ some id := fun id hid e => by
        rcases c5 id e with h | h
        · exact hd id hid h
        · have := hL.lt id hid; omega
      obtain ⟨O', H', v, x1, x2, x3, x4, x5⟩ := l74_3_all hX h6 ih hl hb (Lv := Lv) r (i + 1) O4 _ H4 (by omega) L4 c2 d4 (by rw [List.length_append]; unfold outN; rw [List.length_map]; omega)
      refine ⟨O', H', v, Eq.trans ?_ x1, ?_, by omega, fun j hj hne => ?_, fun id hid => ?_⟩
      · have cl : callRun pg (den pg) .sh [.fn 74 [] [], X, N3, O] H3 = some (O4, H4) := c1
        clear x1 x2 x3 x4 x5 c1 c2 c3 c4 c5 ih hL hO hX a2 a3 a4 a5 a4' a5' b2 b3 b4 b5 b5' f2 f3 f4 O3 L4 d4 hH2 ov l2
        obtain ⟨N, hN⟩ : ∃ N, N = ls.length := ⟨_, rfl⟩
        rw [← hN] at ln dd
        generalize (TV.sl H1.length 0 1 false 1 (some 1)) = W at *
        generalize ((i + 1 : Nat) : Int) = I2 at *
        generalize (i : Int) = I at *
        conv => lhs; rw [l74_3, den_loop]
        simp (disch := omega) [l74_3, b74_2, gX0, gX1, gX2, gX3, gX4, gX5, gX6, gX7, gX8, gX9, gXa, gXb, gXc, gXd, gXe, gXf, gXg, gXh, gXi, gXj, gXk, gXl, gXm, gXn, gXo, gXp, gXq, gXr, gXs, gXt, gXu, gXv, gXw, gXx, k_mv, gXy, gXz, gX01, gX11, gX21, gX31, gX41, gX51, gX61, gX71, gX81, gX91, gXa1, gXb1, gXc1, gXd1, gXe1, gXf1, gXg1, gXh1, gXi1, gXj1, gXk1, gXl1, gXm1, gXn1, gXo1, gXp1, gXq1, gXr1, gXs1, gXt1, gXu1, k_mn, k_mx, gXv1, gXw1, gXx1, gXy1, gXz1, gX02, gX12, gX22, gX32, gX42, gX52, gX62, gX72, Dn.setLast, Dn.getLast, evalO, mapO, Dn.get, putE, gX82, gX92, gXa2, gXb2, TV.one, TV.isAgg, Dn.part, gXc2, negb, at0, at1, at2, at3, at4, dT, dF, gXd2, Option.bind_some, Option.map_some, ln, dd, go_denK (c := l74_1) rfl, q1, a1, bs, b1, cl, w2, -gXx1]
      · rw [List.append_assoc] at x2
        show elI.Own H' O' (out ++ outN ls (perms ls.length k (l ++ [i]) ++ permsF ls.length k l (i + 1) r))
        rw [show outN ls (perms ls.length k (l ++ [i]) ++ permsF ls.length k l (i + 1) r) = outN ls (perms ls.length k (l ++ [i])) ++ outN ls (permsF ls.length k l (i + 1) r) by unfold outN; rw [List.map_append]]
        exact x2
      · rw [x4 j (by omega) (fun e => by
          rcases c5 j e with h | h
          · exact hne h
          · omega), f4 j hj hne]
      · rcases x5 id hid with h | h
        · rcases c5 id h with h | h
          · exact .inl h
          · exact .inr (by omega)
        · exact .inr (by omega)

theorem spec74 {pg : Pg} (hF : Free pg) {X : TV} {ls : List (List Int)} (hX : SSV X ls) (h6 : ls.length ≤ 6) (hL8 : ∀ d ∈ ls, d.length ≤ 8) : ∀ k, Spec74 pg X ls k := by
  intro k
  induction k with
  | zero =>
    intro l Lv O out H hl hb hL hO hd hn
    have hn' : (perms ls.length 0 l).length = 1 := rfl
    have ln := hX.len H
    have lnL : ∀ K, (lenK 0 Lv K).map (fun (n : Nat) => TV.i .i64 (n : Int)) = some (.i .i64 (ls.length : Int)) := fun K => by rw [hL.view.lenK, ci_len, show l.length = ls.length by omega]; rfl
    obtain ⟨X', s1, hX'⟩ := hX.snap H 6
    obtain ⟨L', s2, hL'⟩ : ∃ A, snap .borrow H 9 Lv = some A ∧ SV A (ci l) := by
      rcases hL with ⟨rfl, e⟩ | h
      · exact ⟨.nilsl, gXe2 _ _, .inl ⟨rfl, e⟩⟩
      · have hne : Lv ≠ .nilsl := by
          obtain ⟨_, id, ag, c, rfl, _⟩ := h
          intro e; cases e
        exact ⟨_, (El.Own.view (.inr h)).snap elI_flat hne, .inr ⟨true, rfl⟩⟩
    have c99 := PFn.call (fn99 (pg := pg) hF hL8 hb (by omega) l.length 0 (by omega) X' L' (-1) hX' hL') (args := [X, Lv, .i .i64 0, .i .i64 (-1)]) (ks := []) (fs := []) (cs := []) (H := H) (by simp [snapArgs, s1, s2, sn_i])
    rw [List.drop_zero] at c99
    obtain ⟨W, hW⟩ : ∃ W : Nat, W = rs ls l (-1) := ⟨_, rfl⟩
    rw [← hW] at c99
    obtain ⟨H2, hH2⟩ : ∃ H2, H2 = H ++ [AObj.cells [.i .i64 (W : Int)] false] := ⟨_, rfl⟩
    have bs : dkc pg (den pg) (.bsl false [.i .i64 0] false 1 [0]) [.i .i64 (W : Int)] H = some (.sl H.length 0 1 false 1 (some 1), H2) := by rw [hH2]; rfl
    have ov := one_view H (W : Int)
    rw [← hH2] at ov
    have l2 : H2.length = H.length + 1 := by rw [hH2]; simp
    have f2 : ∀ j, j < H.length → H2[j]? = H[j]? := fun j hj => by rw [hH2, List.getElem?_append_left hj]
    obtain ⟨O3, H3, b1, b2, b3, b4, b5⟩ := appI (hO.mono (H' := H2) fun id hid => f2 id (hO.lt id hid)) ov (by simp; omega)
    refine ⟨O3, H3, body_of (x := .ret) (e := [(6, O3)]) (d := d74) (by rw [hF.F]; rfl) rfl ?_ (.inl rfl) rfl, ?_, by omega, fun j hj hne => by rw [b4 j (by omega) hne, f2 j hj], fun id hid => ?_⟩
    · show go pg (den pg) [.c c74] .normal [(0, X), (1, Lv), (2, O)] H = _
      clear hL hO hX hX' hL' b2 b3 b4 b5 hH2 ov l2 f2 hW
      obtain ⟨N, hN⟩ : ∃ N, N = ls.length := ⟨_, rfl⟩
      rw [← hN] at ln lnL
      generalize (TV.sl H.length 0 1 false 1 (some 1)) = SW at *
      generalize (W : Int) = WW at *
      simp (disch := omega) [c74, gX0, gX1, gX2, gX3, gX4, gX5, gX6, gX7, gX8, gX9, gXa, gXb, gXc, gXd, gXe, gXf, gXg, gXh, gXi, gXj, gXk, gXl, gXm, gXn, gXo, gXp, gXq, gXr, gXs, gXt, gXu, gXv, gXw, gXx, k_mv, gXy, gXz, gX01, gX11, gX21, gX31, gX41, gX51, gX61, gX71, gX81, gX91, gXa1, gXb1, gXc1, gXd1, gXe1, gXf1, gXg1, gXh1, gXi1, gXj1, gXk1, gXl1, gXm1, gXn1, gXo1, gXp1, gXq1, gXr1, gXs1, gXt1, gXu1, k_mn, k_mx, gXv1, gXw1, gXx1, gXy1, gXz1, gX02, gX12, gX22, gX32, gX42, gX52, gX62, gX72, Dn.setLast, Dn.getLast, evalO, mapO, Dn.get, putE, gX82, gX92, gXa2, gXb2, TV.one, TV.isAgg, Dn.part, gXc2, negb, at0, at1, at2, at3, at4, dT, dF, gXd2, Option.bind_some, Option.map_some, ln, lnL, c99, bs, b1, -gXx1]
    · show elI.Own H3 O3 (out ++ [((rs ls l (-1) : Nat) : Int)])
      rw [← hW]; exact b2
    · rcases b5 with rfl | h
      · exact .inl hid
      · have := h id hid; exact .inr (by omega)
  | succ k ih =>
    intro l Lv O out H hl hb hL hO hd hn
    rw [perms_succ] at hn ⊢
    have ln := hX.len H
    have lnL : ∀ K, (lenK 0 Lv K).map (fun (n : Nat) => TV.i .i64 (n : Int)) = some (.i .i64 (l.length : Int)) := fun K => by rw [hL.view.lenK, ci_len]; rfl
    obtain ⟨O', H', v, x1, x2, x3, x4, x5⟩ := l74_3_all hX h6 ih hl hb (Lv := Lv) ls.length 0 O out H (by omega) hL hO hd hn
    refine ⟨O', H', body_of (x := .ret) (e := [(6, O')]) (d := d74) (by rw [hF.F]; rfl) rfl ?_ (.inl rfl) rfl, x2, x3, x4, x5⟩
    show go pg (den pg) [.c c74] .normal [(0, X), (1, Lv), (2, O)] H = _
    have d0 : ¬ (l.length : Int) = (ls.length : Int) := by omega
    simp only [Int.natCast_zero] at x1
    clear hL hO hX x2 x3 x4 x5 ih
    obtain ⟨N, hN⟩ : ∃ N, N = ls.length := ⟨_, rfl⟩
    rw [← hN] at ln d0 x1
    generalize (l.length : Int) = NL at *
    simp (disch := omega) [c74, gX0, gX1, gX2, gX3, gX4, gX5, gX6, gX7, gX8, gX9, gXa, gXb, gXc, gXd, gXe, gXf, gXg, gXh, gXi, gXj, gXk, gXl, gXm, gXn, gXo, gXp, gXq, gXr, gXs, gXt, gXu, gXv, gXw, gXx, k_mv, gXy, gXz, gX01, gX11, gX21, gX31, gX41, gX51, gX61, gX71, gX81, gX91, gXa1, gXb1, gXc1, gXd1, gXe1, gXf1, gXg1, gXh1, gXi1, gXj1, gXk1, gXl1, gXm1, gXn1, gXo1, gXp1, gXq1, gXr1, gXs1, gXt1, gXu1, k_mn, k_mx, gXv1, gXw1, gXx1, gXy1, gXz1, gX02, gX12, gX22, gX32, gX42, gX52, gX62, gX72, Dn.setLast, Dn.getLast, evalO, mapO, Dn.get, putE, gX82, gX92, gXa2, gXb2, TV.one, TV.isAgg, Dn.part, gXc2, negb, at0, at1, at2, at3, at4, dT, dF, gXd2, Option.bind_some, Option.map_some, ln, lnL, d0, go_denK (c := l74_3) rfl, x1]

theorem fn53 {pg : Pg} (hF : Free pg) {X : TV} {ls : List (List Int)} (hX : SSV X ls) (h4 : ls.length ≤ 4) (hL8 : ∀ d ∈ ls, d.length ≤ 8) : PFn pg 53 [X] (elI.lt false (ordN ls)) := by
  obtain ⟨O', H', r1, r2, _⟩ := spec74 (pg := pg) hF hX (by omega) hL8 ls.length [] .nilsl .nilsl [] [] (by simp) (by simp) (.inl ⟨rfl, rfl⟩) (.inl ⟨rfl, rfl⟩) (fun id h => by cases h) (by have := perms_few h4; simp; omega)
  rw [List.nil_append] at r2
  refine .inr ⟨hF.S _ _, O', H', body_of (x := .ret) (e := [(2, O')]) (d := d53) (by rw [hF.F]; rfl) rfl ?_ (.inl rfl) rfl, r2.fin elI_flat⟩
  have cl : callRun pg (den pg) .sh [.fn 74 [] [], X, .nilsl, .nilsl] [] = some (O', H') := r1
  simp (disch := omega) [d53, c53, zipE, gX0, gX1, gX2, gX3, gX4, gX5, gX6, gX7, gX8, gX9, gXa, gXb, gXc, gXd, gXe, gXf, gXg, gXh, gXi, gXj, gXk, gXl, gXm, gXn, gXo, gXp, gXq, gXr, gXs, gXt, gXu, gXv, gXw, gXx, k_mv, gXy, gXz, gX01, gX11, gX21, gX31, gX41, gX51, gX61, gX71, gX81, gX91, gXa1, gXb1, gXc1, gXd1, gXe1, gXf1, gXg1, gXh1, gXi1, gXj1, gXk1, gXl1, gXm1, gXn1, gXo1, gXp1, gXq1, gXr1, gXs1, gXt1, gXu1, k_mn, k_mx, gXv1, gXw1, gXx1, gXy1, gXz1, gX02, gX12, gX22, gX32, gX42, gX52, gX62, gX72, Dn.setLast, Dn.getLast, evalO, mapO, Dn.get, putE, gX82, gX92, gXa2, gXb2, TV.one, TV.isAgg, Dn.part, gXc2, negb, at0, at1, at2, at3, at4, dT, dF, gXd2, Option.bind_some, Option.map_some, cl]

end Go.Proofs.Try.Dn

