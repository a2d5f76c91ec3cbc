/-
  Dice: the law Rises run.
-/
import Derived.Test.YtijeefncmgjlpaaVE
import Derived.Test.YtijeefncmgjlpaaVC
set_option linter.unusedSimpArgs false
set_option linter.unusedVariables false

set_option maxHeartbeats 4000000
set_option maxRecDepth 100000
namespace Go.Proofs.Try.Dn
open Go.Dn

def r9_0 : DC :=
 (.reg [⟨(some 2), .mv, [.c (.b false)], none⟩] [0])

def r9_1 : DC :=
 (.reg [⟨(some 22), .mv, [.t 0], none⟩,
   ⟨(some 23), (.call (.pu [])), [.c (.fn 40 [] []), .t 22, .c (.i .i64 3)], none⟩,
   ⟨(some 3), .mv, [.t 23], none⟩] [3])

def r9_2 : DC :=
 (.reg [⟨(some 25), .mv, [.t 3], none⟩,
   ⟨(some 26), (.call (.pu [])), [.c (.fn 41 [] []), .t 25], none⟩,
   ⟨(some 24), .mv, [.t 26], none⟩,
   ⟨(some 27), (.ext 0), [.t 24], none⟩,
   ⟨(some 28), (.ext 1), [.t 24], none⟩,
   ⟨(some 4), .mv, [.t 27], none⟩,
   ⟨(some 5), .mv, [.t 28], none⟩] [3, 4, 5])

def r9_3 : DC :=
 (.reg [⟨(some 30), .mv, [.t 3], none⟩,
   ⟨(some 31), (.call (.pu [])), [.c (.fn 42 [] []), .t 30], none⟩,
   ⟨(some 29), .mv, [.t 31], none⟩,
   ⟨(some 32), (.ext 0), [.t 29], none⟩,
   ⟨(some 33), (.ext 1), [.t 29], none⟩,
   ⟨(some 6), .mv, [.t 32], none⟩,
   ⟨(some 7), .mv, [.t 33], none⟩] [3, 4, 5, 6, 7])

def r9_4 : DC :=
 (.seq (.reg [⟨(some 34), .mv, [.t 5], none⟩,
   ⟨(some 35), (.binI .neq), [.t 34, .c (.i .i64 0)], none⟩,
   ⟨(some 36), .mv, [.t 35], none⟩,
   ⟨(some 37), .mv, [.t 7], (some (36, false))⟩,
   ⟨(some 38), (.binI .neq), [.t 37, .c (.i .i64 0)], (some (36, false))⟩,
   ⟨(some 39), .pick, [.t 36, .c (.b true), .t 38], none⟩] [3, 4, 6, 39])
 (.cond (.t 39)
  (.seq (.reg [⟨(some 2), .mv, [.c (.b false)], none⟩] [2])
  .ret)
  .skip))

def r9_5 : DC :=
 (.reg [⟨(some 8), .mv, [.c (.i .i64 0)], none⟩] [3, 4, 6, 8])

def r9_6 : DC :=
 (.seq (.reg [⟨(some 9), .mv, [.c (.i .i64 0)], none⟩] [3, 4, 6, 8, 9])
 (.block 0
  l9_1))

def r9_7 : DC :=
 (.seq (.reg [⟨(some 56), .mv, [.t 8], none⟩,
   ⟨(some 57), .mv, [.t 6], none⟩,
   ⟨(some 58), (.binI .neq), [.t 56, .t 57], none⟩] [3, 4, 6, 58])
 (.cond (.t 58)
  (.seq (.reg [⟨(some 2), .mv, [.c (.b false)], none⟩] [2])
  .ret)
  .skip))

def r9_8 : DC :=
 (.seq (.reg [⟨(some 59), .mv, [.t 3], none⟩,
   ⟨(some 60), (.len 0), [.t 59], none⟩,
   ⟨(some 61), (.binI .eql), [.t 60, .c (.i .i64 2)], none⟩] [3, 4, 6, 61])
 (.cond (.t 61)
  (.seq (.reg [⟨(some 63), .mv, [.t 3], none⟩,
    ⟨(some 64), (.ixS 1 false), [.t 63, .c (.i .i64 0)], none⟩,
    ⟨(some 65), (.ld 1 false), [.t 64], none⟩,
    ⟨(some 66), .mv, [.t 3], none⟩,
    ⟨(some 67), (.ixS 1 false), [.t 66, .c (.i .i64 1)], none⟩,
    ⟨(some 68), (.ld 1 false), [.t 67], none⟩,
    ⟨(some 69), (.call (.pu [])), [.c (.fn 33 [] []), .t 65, .t 68], none⟩,
    ⟨(some 62), .mv, [.t 69], none⟩,
    ⟨(some 70), (.ext 0), [.t 62], none⟩,
    ⟨(some 71), (.ext 1), [.t 62], none⟩,
    ⟨(some 72), (.ext 2), [.t 62], none⟩,
    ⟨(some 73), (.ext 3), [.t 62], none⟩,
    ⟨(some 10), .mv, [.t 70], none⟩,
    ⟨(some 11), .mv, [.t 71], none⟩,
    ⟨(some 12), .mv, [.t 72], none⟩,
    ⟨(some 13), .mv, [.t 73], none⟩] [3, 4, 6, 10, 11, 12, 13])
  (.seq (.reg [⟨(some 74), .mv, [.t 13], none⟩,
    ⟨(some 75), (.binI .neq), [.t 74, .c (.i .i64 0)], none⟩,
    ⟨(some 76), .mv, [.t 75], none⟩,
    ⟨(some 77), .mv, [.t 12], (some (76, false))⟩,
    ⟨(some 78), (.binI .neq), [.t 77, .c (.i .i64 0)], (some (76, false))⟩,
    ⟨(some 79), .pick, [.t 76, .c (.b true), .t 78], none⟩,
    ⟨(some 80), .mv, [.t 79], none⟩,
    ⟨(some 81), .mv, [.t 4], (some (80, false))⟩,
    ⟨(some 82), (.len 0), [.t 81], (some (80, false))⟩,
    ⟨(some 83), (.binI .neq), [.t 82, .c (.i .i64 2)], (some (80, false))⟩,
    ⟨(some 84), .pick, [.t 80, .c (.b true), .t 83], none⟩,
    ⟨(some 85), .mv, [.t 84], none⟩,
    ⟨(some 86), .mv, [.t 4], (some (85, false))⟩,
    ⟨(some 87), (.ixS 1 false), [.t 86, .c (.i .i64 0)], (some (85, false))⟩,
    ⟨(some 88), (.ld 1 false), [.t 87], (some (85, false))⟩,
    ⟨(some 89), .mv, [.t 11], (some (85, false))⟩,
    ⟨(some 90), (.binI .neq), [.t 88, .t 89], (some (85, false))⟩,
    ⟨(some 91), .pick, [.t 85, .c (.b true), .t 90], none⟩,
    ⟨(some 92), .mv, [.t 91], none⟩,
    ⟨(some 93), .mv, [.t 4], (some (92, false))⟩,
    ⟨(some 94), (.ixS 1 false), [.t 93, .c (.i .i64 1)], (some (92, false))⟩,
    ⟨(some 95), (.ld 1 false), [.t 94], (some (92, false))⟩,
    ⟨(some 96), .mv, [.t 10], (some (92, false))⟩,
    ⟨(some 97), (.binI .neq), [.t 95, .t 96], (some (92, false))⟩,
    ⟨(some 98), .pick, [.t 92, .c (.b true), .t 97], none⟩] [3, 4, 6, 98])
  (.cond (.t 98)
   (.seq (.reg [⟨(some 2), .mv, [.c (.b false)], none⟩] [2])
   .ret)
   .skip)))
  .skip))

def r9_9 : DC :=
 (.reg [⟨(some 14), .mv, [.c .nilsl], none⟩] [3, 4, 6, 14])

def r9_10 : DC :=
 (.reg [⟨(some 99), .mv, [.t 14], none⟩,
   ⟨(some 100), .mv, [.t 3], none⟩,
   ⟨(some 101), (.app 1 false 24), [.t 99, .t 100], none⟩,
   ⟨(some 14), .mv, [.t 101], none⟩] [4, 6, 14])

def r9_11 : DC :=
 (.reg [⟨(some 102), .mv, [.t 14], none⟩,
   ⟨(some 103), (.bsl false [(.i .i64 0)] false 1 [0]), [.c (.i .i64 60)], none⟩,
   ⟨(some 104), (.bsl false [.nilsl] false 1 [0]), [.t 103], none⟩,
   ⟨(some 105), (.app 1 false 24), [.t 102, .t 104], none⟩,
   ⟨(some 14), .mv, [.t 105], none⟩] [4, 6, 14])

def r9_12 : DC :=
 (.reg [⟨(some 107), .mv, [.t 14], none⟩,
   ⟨(some 108), (.call (.pu [])), [.c (.fn 41 [] []), .t 107], none⟩,
   ⟨(some 106), .mv, [.t 108], none⟩,
   ⟨(some 109), (.ext 0), [.t 106], none⟩,
   ⟨(some 110), (.ext 1), [.t 106], none⟩,
   ⟨(some 15), .mv, [.t 109], none⟩,
   ⟨(some 16), .mv, [.t 110], none⟩] [4, 6, 15, 16])

def r9_13 : DC :=
 (.seq (.reg [⟨(some 111), .mv, [.t 16], none⟩,
   ⟨(some 112), (.binI .neq), [.t 111, .c (.i .i64 0)], none⟩] [4, 6, 15, 112])
 (.cond (.t 112)
  (.seq (.reg [⟨(some 2), .mv, [.c (.b false)], none⟩] [2])
  .ret)
  .skip))

def r9_14 : DC :=
 (.reg [⟨(some 17), .mv, [.c (.i .i64 0)], none⟩,
   ⟨(some 18), .mv, [.c (.i .i64 0)], none⟩] [4, 6, 15, 17, 18])

def r9_15 : DC :=
 (.seq (.reg [⟨(some 19), .mv, [.c (.i .i64 0)], none⟩] [4, 6, 15, 17, 18, 19])
 (.block 2
  l9_3))

def r9_16 : DC :=
 (.reg [⟨(some 20), .mv, [.c (.i .i64 0)], none⟩] [4, 6, 17, 18, 20])

def r9_17 : DC :=
 (.seq (.reg [⟨(some 21), .mv, [.c (.i .i64 0)], none⟩] [4, 6, 17, 18, 20, 21])
 (.block 4
  l9_5))

def r9_18 : DC :=
 (.reg [⟨(some 149), .mv, [.t 17], none⟩,
   ⟨(some 150), .mv, [.t 6], none⟩,
   ⟨(some 151), (.binI .eql), [.t 149, .t 150], none⟩,
   ⟨(some 152), .mv, [.t 151], none⟩,
   ⟨(some 153), .mv, [.t 18], (some (152, true))⟩,
   ⟨(some 154), .mv, [.t 20], (some (152, true))⟩,
   ⟨(some 155), (.binI .eql), [.t 153, .t 154], (some (152, true))⟩,
   ⟨(some 156), .pick, [.t 152, .t 155, .c (.b false)], none⟩,
   ⟨(some 157), .mv, [.t 156], none⟩,
   ⟨(some 158), (.call (.pu [])), [.c (.fn 23 [] [])], (some (157, true))⟩,
   ⟨(some 159), .pick, [.t 157, .t 158, .c (.b false)], none⟩,
   ⟨(some 2), .mv, [.t 159], none⟩] [2])

def r9_19 : DC :=
 .ret

theorem c9_parts : c9 = (.seq r9_0 (.seq r9_1 (.seq r9_2 (.seq r9_3 (.seq r9_4 (.seq r9_5 (.seq r9_6 (.seq r9_7 (.seq r9_8 (.seq r9_9 (.seq r9_10 (.seq r9_11 (.seq r9_12 (.seq r9_13 (.seq r9_14 (.seq r9_15 (.seq r9_16 (.seq r9_17 (.seq r9_18 r9_19))))))))))))))))))) := rfl



def mI (m : List Nat) : List Int := m.map fun (n : Nat) => (n : Int)
theorem mI_at {m : List Nat} {k x : Nat} (h : m[k]? = some x) : (mI m)[k]? = some (x : Int) := by unfold mI; rw [List.getElem?_map, h]; rfl
theorem mI_len (m : List Nat) : (mI m).length = m.length := by simp [mI]
theorem mI_view (m : List Nat) (H : Heap) : elI.View H (elI.lt false (mI m)) (mI m) := ltV elI false H (mI m)
theorem drop_consN {m : List Nat} {k x : Nat} (h : m[k]? = some x) : m.drop k = x :: m.drop (k + 1) := by
  obtain ⟨h1, rfl⟩ := List.getElem?_eq_some_iff.1 h
  exact List.drop_eq_getElem_cons h1

theorem l9_1_all {pg : Pg} {X V6 : TV} {m : List Nat} (hm : m.length ≤ 29) : ∀ (r k s : Nat), k + r = m.length → s + (m.drop k).sum ≤ 1000000000 →
    ∃ v, den pg l9_1 [(3, X), (4, elI.lt false (mI m)), (6, V6), (8, .i .i64 (s : Int)), (9, .i .i64 (k : Int))] [] = some ⟨.exit 0, [(3, X), (4, elI.lt false (mI m)), (6, V6), (8, .i .i64 ((s + (m.drop k).sum : Nat) : Int)), (9, .i .i64 (m.length : Int)), (47, v)], []⟩
  | 0, k, s, hk, hs => by
    obtain rfl : k = m.length := by omega
    have ln := lnB elI false (mI m)
    rw [mI_len] at ln
    refine ⟨.b false, ?_⟩
    simp only [List.drop_length, List.sum_nil, Nat.add_zero]
    generalize elI.lt false (mI m) = O at *
    generalize (m.length : Int) = N at *
    generalize (s : Int) = S at *
    rw [l9_1, den_loop]
    simp (disch := omega) [b9_0, gX0, gX1, gX2, gX3, gX4, gX5, gX6, gX7, gX8, gX9, gXa, gXb, gXc, gXd, gXe, gXf, gXg, gXh, gXi, gXj, gXk, gXl, gXm, gXn, gXo, gXp, gXq, gXr, gXs, gXt, gXu, gXv, gXw, gXx, k_mv, gXy, gXz, gX01, gX11, gX21, gX31, gX41, gX51, gX61, gX71, gX81, gX91, gXa1, gXb1, gXc1, gXd1, gXe1, gXf1, gXg1, gXh1, gXi1, gXj1, gXk1, gXl1, gXm1, gXn1, gXo1, gXp1, gXq1, gXr1, gXs1, gXt1, gXu1, k_mn, k_mx, gXv1, gXw1, gXx1, gXy1, gXz1, gX02, gX12, gX22, gX32, gX42, gX52, gX62, gX72, Dn.setLast, Dn.getLast, evalO, mapO, Dn.get, putE, gX82, gX92, gXa2, gXb2, TV.one, TV.isAgg, Dn.part, gXc2, negb, at0, at1, at2, at3, at4, dT, dF, gXd2, Option.bind_some, Option.map_some, ln]
  | r + 1, k, s, hk, hs => by
    obtain ⟨x, hx⟩ : ∃ x, m[k]? = some x := ⟨_, List.getElem?_eq_getElem (by omega)⟩
    have hdr := drop_consN hx
    rw [hdr, List.sum_cons] at hs ⊢
    obtain ⟨p, p1, p2⟩ := ixI (pg := pg) (R := den pg) (mI_view m []) (mI_at hx)
    have ln := lnB elI false (mI m)
    rw [mI_len] at ln
    have dd : decide ((k : Int) < (m.length : Int)) = true := dT (by omega)
    have d30 : decide ((k : Int) < 30) = true := dT (by omega)
    have w2 : wrapR .i64 ((k : Int) + 1) = .i .i64 ((k + 1 : Nat) : Int) := by rw [← Int.natCast_succ]; exact gXd2 (by omega)
    have ws : wrapR .i64 ((s : Int) + (x : Int)) = .i .i64 ((s + x : Nat) : Int) := by rw [← Int.natCast_add]; exact gXd2 (by omega)
    obtain ⟨v, ih⟩ := l9_1_all (pg := pg) (X := X) (V6 := V6) hm r (k + 1) (s + x) (by omega) (by omega)
    rw [Nat.add_assoc s x] at ih
    refine ⟨v, Eq.trans ?_ ih⟩
    clear ih hdr hx hs
    generalize elI.lt false (mI m) = O at *
    generalize (m.length : Int) = N at *
    generalize ((k + 1 : Nat) : Int) = K2 at *
    generalize (k : Int) = K at *
    generalize ((s + x : Nat) : Int) = SX at *
    generalize (s : Int) = S at *
    generalize (x : Int) = XX at *
    conv => lhs; rw [l9_1, den_loop]
    simp (disch := omega) [l9_1, b9_0, gX0, gX1, gX2, gX3, gX4, gX5, gX6, gX7, gX8, gX9, gXa, gXb, gXc, gXd, gXe, gXf, gXg, gXh, gXi, gXj, gXk, gXl, gXm, gXn, gXo, gXp, gXq, gXr, gXs, gXt, gXu, gXv, gXw, gXx, k_mv, gXy, gXz, gX01, gX11, gX21, gX31, gX41, gX51, gX61, gX71, gX81, gX91, gXa1, gXb1, gXc1, gXd1, gXe1, gXf1, gXg1, gXh1, gXi1, gXj1, gXk1, gXl1, gXm1, gXn1, gXo1, gXp1, gXq1, gXr1, gXs1, gXt1, gXu1, k_mn, k_mx, gXv1, gXw1, gXx1, gXy1, gXz1, gX02, gX12, gX22, gX32, gX42, gX52, gX62, gX72, Dn.setLast, Dn.getLast, evalO, mapO, Dn.get, putE, gX82, gX92, gXa2, gXb2, TV.one, TV.isAgg, Dn.part, gXc2, negb, at0, at1, at2, at3, at4, dT, dF, gXd2, Option.bind_some, Option.map_some, ln, dd, d30, p1, p2, ws, w2]

def cP (m : List Nat) : Nat := m.countP fun n => decide (0 < n)
theorem cP_cons (x : Nat) (m : List Nat) : cP (x :: m) = cP m + if 0 < x then 1 else 0 := by unfold cP; rw [List.countP_cons]; simp
theorem l9_3_all {pg : Pg} {V4 V6 : TV} {m : List Nat} {H : Heap} (hm : m.length ≤ 29) : ∀ (r k s c : Nat), k + r = m.length → s + (m.drop k).sum ≤ 1000000000 → c ≤ k →
    ∃ v, den pg l9_3 [(4, V4), (6, V6), (15, elI.lt false (mI m)), (17, .i .i64 (s : Int)), (18, .i .i64 (c : Int)), (19, .i .i64 (k : Int))] H = some ⟨.exit 2, [(4, V4), (6, V6), (15, elI.lt false (mI m)), (17, .i .i64 ((s + (m.drop k).sum : Nat) : Int)), (18, .i .i64 ((c + cP (m.drop k) : Nat) : Int)), (19, .i .i64 (m.length : Int)), (120, v)], H⟩
  | 0, k, s, c, hk, hs, hc => by
    obtain rfl : k = m.length := by omega
    have ln := lnB elI false (mI m)
    rw [mI_len] at ln
    refine ⟨.b false, ?_⟩
    simp only [List.drop_length, List.sum_nil, Nat.add_zero, show cP [] = 0 from rfl]
    generalize elI.lt false (mI m) = O at *
    generalize (m.length : Int) = N at *
    generalize (s : Int) = S at *
    generalize (c : Int) = C at *
    rw [l9_3, den_loop]
    simp (disch := omega) [b9_2, gX0, gX1, gX2, gX3, gX4, gX5, gX6, gX7, gX8, gX9, gXa, gXb, gXc, gXd, gXe, gXf, gXg, gXh, gXi, gXj, gXk, gXl, gXm, gXn, gXo, gXp, gXq, gXr, gXs, gXt, gXu, gXv, gXw, gXx, k_mv, gXy, gXz, gX01, gX11, gX21, gX31, gX41, gX51, gX61, gX71, gX81, gX91, gXa1, gXb1, gXc1, gXd1, gXe1, gXf1, gXg1, gXh1, gXi1, gXj1, gXk1, gXl1, gXm1, gXn1, gXo1, gXp1, gXq1, gXr1, gXs1, gXt1, gXu1, k_mn, k_mx, gXv1, gXw1, gXx1, gXy1, gXz1, gX02, gX12, gX22, gX32, gX42, gX52, gX62, gX72, Dn.setLast, Dn.getLast, evalO, mapO, Dn.get, putE, gX82, gX92, gXa2, gXb2, TV.one, TV.isAgg, Dn.part, gXc2, negb, at0, at1, at2, at3, at4, dT, dF, gXd2, Option.bind_some, Option.map_some, ln]
  | r + 1, k, s, c, hk, hs, hc => by
    obtain ⟨x, hx⟩ : ∃ x, m[k]? = some x := ⟨_, List.getElem?_eq_getElem (by omega)⟩
    have hdr := drop_consN hx
    have hcc : c + cP (m.drop k) = (c + if 0 < x then 1 else 0) + cP (m.drop (k + 1)) := by rw [hdr, cP_cons]; omega
    rw [hcc]
    rw [hdr, List.sum_cons] at hs ⊢
    obtain ⟨p, p1, p2⟩ := ixI (pg := pg) (R := den pg) (mI_view m H) (mI_at hx)
    have ln := lnB elI false (mI m)
    rw [mI_len] at ln
    have dd : decide ((k : Int) < (m.length : Int)) = true := dT (by omega)
    have d30 : decide ((k : Int) < 30) = true := dT (by omega)
    have w2 : wrapR .i64 ((k : Int) + 1) = .i .i64 ((k + 1 : Nat) : Int) := by rw [← Int.natCast_succ]; exact gXd2 (by omega)
    have ws : wrapR .i64 ((s : Int) + (x : Int)) = .i .i64 ((s + x : Nat) : Int) := by rw [← Int.natCast_add]; exact gXd2 (by omega)
    have wc : wrapR .i64 ((c : Int) + 1) = .i .i64 ((c + 1 : Nat) : Int) := by rw [← Int.natCast_succ]; exact gXd2 (by omega)
    by_cases h0 : 0 < x
    · rw [if_pos h0]
      · obtain ⟨v, ih⟩ := l9_3_all (pg := pg) (V4 := V4) (V6 := V6) (H := H) hm r (k + 1) (s + x) (c + 1) (by omega) (by omega) (by omega)
        rw [Nat.add_assoc s x] at ih
        refine ⟨v, Eq.trans ?_ ih⟩
        have dx : decide (0 < (x : Int)) = true := dT (by omega)
        clear ih hdr hx hs hcc
        generalize elI.lt false (mI m) = O at *
        generalize (m.length : Int) = N at *
        generalize ((k + 1 : Nat) : Int) = K2 at *
        generalize (k : Int) = K at *
        generalize ((s + x : Nat) : Int) = SX at *
        generalize (s : Int) = S at *
        generalize (x : Int) = XX at *
        generalize ((c + 1 : Nat) : Int) = C2 at *
        generalize (c : Int) = C at *
        conv => lhs; rw [l9_3, den_loop]
        simp (disch := omega) [l9_3, b9_2, gX0, gX1, gX2, gX3, gX4, gX5, gX6, gX7, gX8, gX9, gXa, gXb, gXc, gXd, gXe, gXf, gXg, gXh, gXi, gXj, gXk, gXl, gXm, gXn, gXo, gXp, gXq, gXr, gXs, gXt, gXu, gXv, gXw, gXx, k_mv, gXy, gXz, gX01, gX11, gX21, gX31, gX41, gX51, gX61, gX71, gX81, gX91, gXa1, gXb1, gXc1, gXd1, gXe1, gXf1, gXg1, gXh1, gXi1, gXj1, gXk1, gXl1, gXm1, gXn1, gXo1, gXp1, gXq1, gXr1, gXs1, gXt1, gXu1, k_mn, k_mx, gXv1, gXw1, gXx1, gXy1, gXz1, gX02, gX12, gX22, gX32, gX42, gX52, gX62, gX72, Dn.setLast, Dn.getLast, evalO, mapO, Dn.get, putE, gX82, gX92, gXa2, gXb2, TV.one, TV.isAgg, Dn.part, gXc2, negb, at0, at1, at2, at3, at4, dT, dF, gXd2, Option.bind_some, Option.map_some, ln, dd, d30, p1, p2, dx, ws, wc, w2]
    · rw [if_neg h0]
      obtain ⟨v, ih⟩ := l9_3_all (pg := pg) (V4 := V4) (V6 := V6) (H := H) hm r (k + 1) s c (by omega) (by omega) (by omega)
      have hx0 : x = 0 := by omega
      subst hx0
      rw [Nat.zero_add, Nat.add_zero]
      refine ⟨v, Eq.trans ?_ ih⟩
      clear ih hdr hx hs hcc ws
      generalize elI.lt false (mI m) = O at *
      generalize (m.length : Int) = N at *
      generalize ((k + 1 : Nat) : Int) = K2 at *
      generalize (k : Int) = K at *
      generalize (s : Int) = S at *
      generalize (c : Int) = C at *
      simp only [Int.natCast_zero] at p2
      conv => lhs; rw [l9_3, den_loop]
      simp (disch := omega) [l9_3, b9_2, gX0, gX1, gX2, gX3, gX4, gX5, gX6, gX7, gX8, gX9, gXa, gXb, gXc, gXd, gXe, gXf, gXg, gXh, gXi, gXj, gXk, gXl, gXm, gXn, gXo, gXp, gXq, gXr, gXs, gXt, gXu, gXv, gXw, gXx, k_mv, gXy, gXz, gX01, gX11, gX21, gX31, gX41, gX51, gX61, gX71, gX81, gX91, gXa1, gXb1, gXc1, gXd1, gXe1, gXf1, gXg1, gXh1, gXi1, gXj1, gXk1, gXl1, gXm1, gXn1, gXo1, gXp1, gXq1, gXr1, gXs1, gXt1, gXu1, k_mn, k_mx, gXv1, gXw1, gXx1, gXy1, gXz1, gX02, gX12, gX22, gX32, gX42, gX52, gX62, gX72, Dn.setLast, Dn.getLast, evalO, mapO, Dn.get, putE, gX82, gX92, gXa2, gXb2, TV.one, TV.isAgg, Dn.part, gXc2, negb, at0, at1, at2, at3, at4, dT, dF, gXd2, Option.bind_some, Option.map_some, ln, dd, d30, p1, p2, w2]

theorem l9_5_all {pg : Pg} {V6 V17 V18 : TV} {m : List Nat} {H : Heap} (hm : m.length ≤ 29) : ∀ (r k c : Nat), k + r = m.length → c ≤ k →
    ∃ v, den pg l9_5 [(4, elI.lt false (mI m)), (6, V6), (17, V17), (18, V18), (20, .i .i64 (c : Int)), (21, .i .i64 (k : Int))] H = some ⟨.exit 4, [(4, elI.lt false (mI m)), (6, V6), (17, V17), (18, V18), (20, .i .i64 ((c + cP (m.drop k) : Nat) : Int)), (21, .i .i64 (m.length : Int)), (139, v)], H⟩
  | 0, k, c, hk, hc => by
    obtain rfl : k = m.length := by omega
    have ln := lnB elI false (mI m)
    rw [mI_len] at ln
    refine ⟨.b false, ?_⟩
    simp only [List.drop_length, Nat.add_zero, show cP [] = 0 from rfl]
    generalize elI.lt false (mI m) = O at *
    generalize (m.length : Int) = N at *
    generalize (c : Int) = C at *
    rw [l9_5, den_loop]
    simp (disch := omega) [b9_4, gX0, gX1, gX2, gX3, gX4, gX5, gX6, gX7, gX8, gX9, gXa, gXb, gXc, gXd, gXe, gXf, gXg, gXh, gXi, gXj, gXk, gXl, gXm, gXn, gXo, gXp, gXq, gXr, gXs, gXt, gXu, gXv, gXw, gXx, k_mv, gXy, gXz, gX01, gX11, gX21, gX31, gX41, gX51, gX61, gX71, gX81, gX91, gXa1, gXb1, gXc1, gXd1, gXe1, gXf1, gXg1, gXh1, gXi1, gXj1, gXk1, gXl1, gXm1, gXn1, gXo1, gXp1, gXq1, gXr1, gXs1, gXt1, gXu1, k_mn, k_mx, gXv1, gXw1, gXx1, gXy1, gXz1, gX02, gX12, gX22, gX32, gX42, gX52, gX62, gX72, Dn.setLast, Dn.getLast, evalO, mapO, Dn.get, putE, gX82, gX92, gXa2, gXb2, TV.one, TV.isAgg, Dn.part, gXc2, negb, at0, at1, at2, at3, at4, dT, dF, gXd2, Option.bind_some, Option.map_some, ln]
  | r + 1, k, c, hk, hc => by
    obtain ⟨x, hx⟩ : ∃ x, m[k]? = some x := ⟨_, List.getElem?_eq_getElem (by omega)⟩
    have hdr := drop_consN hx
    have hcc : c + cP (m.drop k) = (c + if 0 < x then 1 else 0) + cP (m.drop (k + 1)) := by rw [hdr, cP_cons]; omega
    rw [hcc]
    obtain ⟨p, p1, p2⟩ := ixI (pg := pg) (R := den pg) (mI_view m H) (mI_at hx)
    have ln := lnB elI false (mI m)
    rw [mI_len] at ln
    have dd : decide ((k : Int) < (m.length : Int)) = true := dT (by omega)
    have w2 : wrapR .i64 ((k : Int) + 1) = .i .i64 ((k + 1 : Nat) : Int) := by rw [← Int.natCast_succ]; exact gXd2 (by omega)
    have wc : wrapR .i64 ((c : Int) + 1) = .i .i64 ((c + 1 : Nat) : Int) := by rw [← Int.natCast_succ]; exact gXd2 (by omega)
    by_cases h0 : 0 < x
    · rw [if_pos h0]
      obtain ⟨v, ih⟩ := l9_5_all (pg := pg) (V6 := V6) (V17 := V17) (V18 := V18) (H := H) hm r (k + 1) (c + 1) (by omega) (by omega)
      refine ⟨v, Eq.trans ?_ ih⟩
      have dx : decide (0 < (x : Int)) = true := dT (by omega)
      clear ih hdr hx hcc
      generalize elI.lt false (mI m) = O at *
      generalize (m.length : Int) = N at *
      generalize ((k + 1 : Nat) : Int) = K2 at *
      generalize (k : Int) = K at *
      generalize (x : Int) = XX at *
      generalize ((c + 1 : Nat) : Int) = C2 at *
      generalize (c : Int) = C at *
      conv => lhs; rw [l9_5, den_loop]
      simp (disch := omega) [l9_5, b9_4, gX0, gX1, gX2, gX3, gX4, gX5, gX6, gX7, gX8, gX9, gXa, gXb, gXc, gXd, gXe, gXf, gXg, gXh, gXi, gXj, gXk, gXl, gXm, gXn, gXo, gXp, gXq, gXr, gXs, gXt, gXu, gXv, gXw, gXx, k_mv, gXy, gXz, gX01, gX11, gX21, gX31, gX41, gX51, gX61, gX71, gX81, gX91, gXa1, gXb1, gXc1, gXd1, gXe1, gXf1, gXg1, gXh1, gXi1, gXj1, gXk1, gXl1, gXm1, gXn1, gXo1, gXp1, gXq1, gXr1, gXs1, gXt1, gXu1, k_mn, k_mx, gXv1, gXw1, gXx1, gXy1, gXz1, gX02, gX12, gX22, gX32, gX42, gX52, gX62, gX72, Dn.setLast, Dn.getLast, evalO, mapO, Dn.get, putE, gX82, gX92, gXa2, gXb2, TV.one, TV.isAgg, Dn.part, gXc2, negb, at0, at1, at2, at3, at4, dT, dF, gXd2, Option.bind_some, Option.map_some, ln, dd, p1, p2, dx, wc, w2]
    · rw [if_neg h0]
      obtain ⟨v, ih⟩ := l9_5_all (pg := pg) (V6 := V6) (V17 := V17) (V18 := V18) (H := H) hm r (k + 1) c (by omega) (by omega)
      have hx0 : x = 0 := by omega
      subst hx0
      rw [Nat.add_zero]
      refine ⟨v, Eq.trans ?_ ih⟩
      clear ih hdr hx hcc
      generalize elI.lt false (mI m) = O at *
      generalize (m.length : Int) = N at *
      generalize ((k + 1 : Nat) : Int) = K2 at *
      generalize (k : Int) = K at *
      generalize (c : Int) = C at *
      simp only [Int.natCast_zero] at p2
      conv => lhs; rw [l9_5, den_loop]
      simp (disch := omega) [l9_5, b9_4, gX0, gX1, gX2, gX3, gX4, gX5, gX6, gX7, gX8, gX9, gXa, gXb, gXc, gXd, gXe, gXf, gXg, gXh, gXi, gXj, gXk, gXl, gXm, gXn, gXo, gXp, gXq, gXr, gXs, gXt, gXu, gXv, gXw, gXx, k_mv, gXy, gXz, gX01, gX11, gX21, gX31, gX41, gX51, gX61, gX71, gX81, gX91, gXa1, gXb1, gXc1, gXd1, gXe1, gXf1, gXg1, gXh1, gXi1, gXj1, gXk1, gXl1, gXm1, gXn1, gXo1, gXp1, gXq1, gXr1, gXs1, gXt1, gXu1, k_mn, k_mx, gXv1, gXw1, gXx1, gXy1, gXz1, gX02, gX12, gX22, gX32, gX42, gX52, gX62, gX72, Dn.setLast, Dn.getLast, evalO, mapO, Dn.get, putE, gX82, gX92, gXa2, gXb2, TV.one, TV.isAgg, Dn.part, gXc2, negb, at0, at1, at2, at3, at4, dT, dF, gXd2, Option.bind_some, Option.map_some, ln, dd, p1, p2, w2]

theorem pos_row {n : Nat} {ls : List (List Int)} (h : Row 59 n ls) : Pos ls := fun d hd f hf => by
  have := (h.all d hd).ok f hf
  omega

theorem more_row {ls : List (List Int)} (h : Row 59 3 ls) : Row 60 6 (ls ++ [[60]]) := by
  refine ⟨fun d hd => ?_, by simp, by have := h.le; simp; omega⟩
  rcases List.mem_append.1 hd with hd | hd
  · exact (h.all d hd).mono (by omega)
  · rw [List.mem_singleton.1 hd]
    exact ⟨⟨by simp, fun x hx => by rw [List.mem_singleton.1 hx]; omega, List.pairwise_singleton _ _⟩, by simp⟩

theorem more_apt {ls : List (List Int)} (h : Row 59 3 ls) (ha : Apt ls) : Apt (ls ++ [[60]]) := by
  intro i k d d' f hk hd hd' hf
  by_cases hi : i < ls.length
  · rw [List.getElem?_append_left hi] at hd
    rw [List.getElem?_append_left (by omega)] at hd'
    exact ha i k d d' f hk hd hd' hf
  · have h1 := (List.getElem?_eq_some_iff.1 hd).1
    simp at h1
    have e : i = ls.length := by omega
    subst e
    rw [List.getElem?_append_right (Nat.le_refl _), Nat.sub_self] at hd
    simp at hd
    subst hd
    rw [List.mem_singleton.1 hf]
    rw [List.getElem?_append_left hk] at hd'
    intro hm
    have := (h.all d' (List.mem_of_getElem? hd')).ok 60 hm
    omega

theorem run9 {pg : Pg} (hF : Free pg) (h23 : PFn pg 23 [] (.b true)) {T : TV} {l : List (List Int)} (hT : SSV T l) (hl : l.length ≤ 9223372036854775807) (hL : ∀ x ∈ l, x.length ≤ 9223372036854775807) : ∃ H, bodyRun pg (den pg) 9 [T] [] = some (.b true, H) := by
  obtain ⟨ls2, hr2, c40⟩ := call40 (pg := pg) hF hT hl hL (many := 3) (by omega) (by omega) []
  have hrow := apL_row (by omega) hr2
  have hap := apL_apt (n := 3) (by omega) hr2.le
  obtain ⟨ls, hls⟩ : ∃ ls, ls = apL ls2 := ⟨_, rfl⟩
  rw [← hls] at c40 hrow hap
  have hle := hrow.le
  have hpos1 := hrow.pos
  have hP := pos_row hrow
  have h60 : Row 60 6 ls := ⟨fun d hd => (hrow.all d hd).mono (by omega), hrow.pos, by omega⟩
  have h0 := chk_row h60 (by omega) (by omega)
  have hL3 : ∀ d ∈ ls, d.length ≤ 1000000 := fun d hd => by have := (h60.all d hd).le; omega
  have hX := elR_SSV false false ls
  have ln : ∀ K, (lenK 0 ((elR false).lt false ls) K).map (fun (n : Nat) => TV.i .i64 (n : Int)) = some (.i .i64 (ls.length : Int)) := fun K => by rw [hX.len K]; rfl
  obtain ⟨X', s1, s2⟩ := snapSSV hX []
  have ca : ∀ {f : Nat} {v : TV}, PFn pg f [X'] v → callRun pg (den pg) (.pu []) [.fn f [] [], (elR false).lt false ls] [] = some (v, []) := fun {f v} h => PFn.call h (args := [(elR false).lt false ls]) (ks := []) (fs := []) (cs := []) (H := []) (by simpa using s1)
  have c41 := ca ((fn41 (pg := pg) hF s2 (by omega) hL3).2.2.2 h0 (by omega) hap)
  have c42 := ca (fn42 (pg := pg) hF s2 h0)
  have hsum := sum_law hP hap hpos1 hle
  have hm29 : ∀ {ms : List (List Int)}, ms.length ≤ 4 → (ordM ms).length ≤ 29 := fun {ms} h => by
    have := (ordN_ne h).2
    rw [ordM_N, List.length_map] at this
    omega
  have hlp := lenP_le (ls := ls) (fun d hd => (h60.all d hd).le) (by omega)
  have hsumN : (ordM ls).sum = lenP ls := by
    rw [ordM_N] at hsum
    have : ∀ m : List Nat, (m.map fun (n : Nat) => (n : Int)).sum = ((m.sum : Nat) : Int) := fun m => by
      induction m with
      | nil => rfl
      | cons x m ih => rw [List.map_cons, List.sum_cons, ih, List.sum_cons]; omega
    rw [this] at hsum
    omega
  obtain ⟨ml1, ml2⟩ := more_law hP hle
  have eN : ∀ ms : List (List Int), ordN ms = mI (ordM ms) := fun ms => ordM_N ms
  rw [eN] at c41
  obtain ⟨v1, q1⟩ := l9_1_all (pg := pg) (X := (elR false).lt false ls) (V6 := .i .i64 ((lenP ls : Nat) : Int)) (m := ordM ls) (hm29 (by omega)) (ordM ls).length 0 0 (by omega) (by rw [List.drop_zero, hsumN]; omega)
  rw [List.drop_zero, Nat.zero_add, hsumN] at q1
  -- a die more
  obtain ⟨O1, H1, S1, H2, S2, H3, O2, H4, m1, m2, m3, m4, m5⟩ := more_mem (pg := pg) ls (by omega)
  have hrM := more_row hrow
  have h0M := chk_row hrM (by omega) (by omega)
  have hapM := more_apt hrow hap
  have lM : (ls ++ [([60] : List Int)]).length ≤ 4 := by simp; omega
  have c41M := PFn.call ((fn41 (pg := pg) hF (elR_SSV true true (ls ++ [[60]])) (by omega) (fun d hd => by have := (hrM.all d hd).le; omega)).2.2.2 h0M lM hapM) (args := [O2]) (ks := []) (fs := []) (cs := []) (H := H4) (by simp [snapArgs, m5])
  rw [eN] at c41M
  obtain ⟨v2, q2⟩ := l9_3_all (pg := pg) (V4 := elI.lt false (mI (ordM ls))) (V6 := .i .i64 ((lenP ls : Nat) : Int)) (m := ordM (ls ++ [[60]])) (H := H4) (hm29 lM) (ordM (ls ++ [[60]])).length 0 0 0 (by omega) (by rw [List.drop_zero, ml1, hsumN]; omega) (Nat.le_refl _)
  rw [List.drop_zero, Nat.zero_add, Nat.zero_add, ml1, hsumN, show cP (ordM (ls ++ [[60]])) = cP (ordM ls) from ml2] at q2
  obtain ⟨v3, q3⟩ := l9_5_all (pg := pg) (V6 := .i .i64 ((lenP ls : Nat) : Int)) (V17 := .i .i64 ((lenP ls : Nat) : Int)) (V18 := .i .i64 ((cP (ordM ls) : Nat) : Int)) (m := ordM ls) (H := H4) (hm29 (by omega)) (ordM ls).length 0 0 (by omega) (Nat.le_refl _)
  rw [List.drop_zero, Nat.zero_add] at q3
  have c23 := PFn.call h23 (args := []) (ks := []) (fs := []) (cs := []) (H := H4) (by simp [snapArgs])
  simp only [Int.natCast_zero] at q1 q2 q3
  simp only [Int.cast_ofNat_Int] at c40
  refine ⟨H4, body_of (x := .ret) (e := [(2, .b true)]) (d := d9) (by rw [hF.F]; rfl) rfl ?_ (.inl rfl) rfl⟩
  show go pg (den pg) [.c c9] .normal [(0, T)] [] = _
  rw [c9_parts]
  -- of two dice, what Compare says
  have mid : ∀ K, go pg (den pg) (.c r9_8 :: K) .normal [(3, (elR false).lt false ls), (4, elI.lt false (mI (ordM ls))), (6, .i .i64 ((lenP ls : Nat) : Int)), (58, .b false)] [] = go pg (den pg) K .normal [(3, (elR false).lt false ls), (4, elI.lt false (mI (ordM ls))), (6, .i .i64 ((lenP ls : Nat) : Int)), (61, .b (decide (ls.length = 2)))] [] ∨ go pg (den pg) (.c r9_8 :: K) .normal [(3, (elR false).lt false ls), (4, elI.lt false (mI (ordM ls))), (6, .i .i64 ((lenP ls : Nat) : Int)), (58, .b false)] [] = go pg (den pg) K .normal [(3, (elR false).lt false ls), (4, elI.lt false (mI (ordM ls))), (6, .i .i64 ((lenP ls : Nat) : Int)), (98, .b false)] [] := by
    intro K
    by_cases h2 : ls.length = 2
    · right
      obtain ⟨a, b, rfl⟩ : ∃ a b, ls = [a, b] := by
        match ls, h2 with
        | [a, b], _ => exact ⟨a, b, rfl⟩
      obtain ⟨u, A, u1, u2, hA⟩ := hX.ix (pg := pg) (R := den pg) (i := 0) (x := a) rfl []
      obtain ⟨w, B, w1, w2, hB⟩ := hX.ix (pg := pg) (R := den pg) (i := 1) (x := b) rfl []
      have u1 : dkc pg (den pg) (.ixS 1 false) [(elR false).lt false [a, b], .i .i64 0] [] = some (u, []) := u1
      have w1 : dkc pg (den pg) (.ixS 1 false) [(elR false).lt false [a, b], .i .i64 1] [] = some (w, []) := w1
      have da := (h60.all a (by simp)).le
      have db := (h60.all b (by simp)).le
      have c33 := call33 (pg := pg) hF hA hB (by omega) (by omega) h0 []
      have hz : same a b = 0 := same_zero.2 fun x hx hb => hap 1 0 b a x (by omega) rfl rfl hb hx
      rw [hz] at c33
      have hoN : mI (ordM [a, b]) = [((less a b : Nat) : Int), ((more a b : Nat) : Int)] := by rw [← eN, ordN2 hP]
      have hV := mI_view (ordM [a, b]) []
      obtain ⟨p, p1, p2⟩ := ixI (pg := pg) (R := den pg) hV (i := 0) (x := ((less a b : Nat) : Int)) (by rw [hoN]; rfl)
      obtain ⟨q, q1', q2'⟩ := ixI (pg := pg) (R := den pg) hV (i := 1) (x := ((more a b : Nat) : Int)) (by rw [hoN]; rfl)
      have p1 : dkc pg (den pg) (.ixS 1 false) [elI.lt false (mI (ordM [a, b])), .i .i64 0] [] = some (p, []) := p1
      have q1' : dkc pg (den pg) (.ixS 1 false) [elI.lt false (mI (ordM [a, b])), .i .i64 1] [] = some (q, []) := q1'
      have lnO := lnB elI false (mI (ordM [a, b]))
      rw [hoN] at lnO
      simp only [List.length_cons, List.length_nil, ← hoN] at lnO
      have ln2 : ∀ K, (lenK 0 ((elR false).lt false [a, b]) K).map (fun (n : Nat) => TV.i .i64 (n : Int)) = some (.i .i64 2) := ln
      have lnO2 : ∀ K, (lenK 0 (elI.lt false (mI (ordM [a, b]))) K).map (fun (n : Nat) => TV.i .i64 (n : Int)) = some (.i .i64 2) := lnO
      simp only [Int.natCast_zero] at c33
      clear q1 q2 q3 c41 c42 c41M hV hoN hX hA hB lnO ln m1 m2 m3 m4 m5 ca s1 s2 c40 c23 hls
      generalize elI.lt false (mI (ordM [a, b])) = O at *
      generalize (elR false).lt false [a, b] = X at *
      generalize (less a b : Int) = LL at *
      generalize (more a b : Int) = MM at *
      generalize (lenP [a, b] : Int) = LP at *
      simp (disch := omega) [r9_8, gX0, gX1, gX2, gX3, gX4, gX5, gX6, gX7, gX8, gX9, gXa, gXb, gXc, gXd, gXe, gXf, gXg, gXh, gXi, gXj, gXk, gXl, gXm, gXn, gXo, gXp, gXq, gXr, gXs, gXt, gXu, gXv, gXw, gXx, k_mv, gXy, gXz, gX01, gX11, gX21, gX31, gX41, gX51, gX61, gX71, gX81, gX91, gXa1, gXb1, gXc1, gXd1, gXe1, gXf1, gXg1, gXh1, gXi1, gXj1, gXk1, gXl1, gXm1, gXn1, gXo1, gXp1, gXq1, gXr1, gXs1, gXt1, gXu1, k_mn, k_mx, gXv1, gXw1, gXx1, gXy1, gXz1, gX02, gX12, gX22, gX32, gX42, gX52, gX62, gX72, Dn.setLast, Dn.getLast, evalO, mapO, Dn.get, putE, gX82, gX92, gXa2, gXb2, TV.one, TV.isAgg, Dn.part, gXc2, negb, at0, at1, at2, at3, at4, dT, dF, gXd2, Option.bind_some, Option.map_some, ln2, lnO2, u1, u2, w1, w2, c33, p1, p2, q1', q2']
    · left
      have hn : ((ls.length : Int) == 2) = false := beqF (by omega)
      rw [decide_eq_false h2]
      clear q1 q2 q3 c41 c42 c41M m1 m2 m3 m4 m5 ca s1 s2 c40 c23 hls hX
      generalize elI.lt false (mI (ordM ls)) = O at *
      generalize (elR false).lt false ls = X at *
      generalize (ls.length : Int) = N at *
      generalize (lenP ls : Int) = LP at *
      simp (disch := omega) [r9_8, gX0, gX1, gX2, gX3, gX4, gX5, gX6, gX7, gX8, gX9, gXa, gXb, gXc, gXd, gXe, gXf, gXg, gXh, gXi, gXj, gXk, gXl, gXm, gXn, gXo, gXp, gXq, gXr, gXs, gXt, gXu, gXv, gXw, gXx, k_mv, gXy, gXz, gX01, gX11, gX21, gX31, gX41, gX51, gX61, gX71, gX81, gX91, gXa1, gXb1, gXc1, gXd1, gXe1, gXf1, gXg1, gXh1, gXi1, gXj1, gXk1, gXl1, gXm1, gXn1, gXo1, gXp1, gXq1, gXr1, gXs1, gXt1, gXu1, k_mn, k_mx, gXv1, gXw1, gXx1, gXy1, gXz1, gX02, gX12, gX22, gX32, gX42, gX52, gX62, gX72, Dn.setLast, Dn.getLast, evalO, mapO, Dn.get, putE, gX82, gX92, gXa2, gXb2, TV.one, TV.isAgg, Dn.part, gXc2, negb, at0, at1, at2, at3, at4, dT, dF, gXd2, Option.bind_some, Option.map_some, ln, hn]
  have fin9 : ∀ E : Env, (E = [(3, (elR false).lt false ls), (4, elI.lt false (mI (ordM ls))), (6, .i .i64 ((lenP ls : Nat) : Int)), (61, .b (decide (ls.length = 2)))] ∨ E = [(3, (elR false).lt false ls), (4, elI.lt false (mI (ordM ls))), (6, .i .i64 ((lenP ls : Nat) : Int)), (98, .b false)]) →
      go pg (den pg) [.c (.seq r9_9 (.seq r9_10 (.seq r9_11 (.seq r9_12 (.seq r9_13 (.seq r9_14 (.seq r9_15 (.seq r9_16 (.seq r9_17 (.seq r9_18 r9_19))))))))))] .normal E [] = some ⟨.ret, [(2, .b true)], H4⟩ := by
    intro E hE
    clear mid q1 c41 c42 m5 ca s1 s2 c40 hls hX ln
    generalize elI.lt false (mI (ordM (ls ++ [[60]]))) = PM at *
    generalize elI.lt false (mI (ordM ls)) = O at *
    generalize (elR false).lt false ls = X at *
    generalize (lenP ls : Int) = LP at *
    generalize (cP (ordM ls) : Int) = CP at *
    rcases hE with rfl | rfl <;> simp (disch := omega) [r9_9, r9_10, r9_11, r9_12, r9_13, r9_14, r9_15, r9_16, r9_17, r9_18, r9_19, gX0, gX1, gX2, gX3, gX4, gX5, gX6, gX7, gX8, gX9, gXa, gXb, gXc, gXd, gXe, gXf, gXg, gXh, gXi, gXj, gXk, gXl, gXm, gXn, gXo, gXp, gXq, gXr, gXs, gXt, gXu, gXv, gXw, gXx, k_mv, gXy, gXz, gX01, gX11, gX21, gX31, gX41, gX51, gX61, gX71, gX81, gX91, gXa1, gXb1, gXc1, gXd1, gXe1, gXf1, gXg1, gXh1, gXi1, gXj1, gXk1, gXl1, gXm1, gXn1, gXo1, gXp1, gXq1, gXr1, gXs1, gXt1, gXu1, k_mn, k_mx, gXv1, gXw1, gXx1, gXy1, gXz1, gX02, gX12, gX22, gX32, gX42, gX52, gX62, gX72, Dn.setLast, Dn.getLast, evalO, mapO, Dn.get, putE, gX82, gX92, gXa2, gXb2, TV.one, TV.isAgg, Dn.part, gXc2, negb, at0, at1, at2, at3, at4, dT, dF, gXd2, Option.bind_some, Option.map_some, m1, m2, m3, m4, c41M, go_denK (c := l9_3) rfl, q2, go_denK (c := l9_5) rfl, q3, c23, -gXx1]
  have start : go pg (den pg) [.c (.seq r9_0 (.seq r9_1 (.seq r9_2 (.seq r9_3 (.seq r9_4 (.seq r9_5 (.seq r9_6 (.seq r9_7 (.seq r9_8 (.seq r9_9 (.seq r9_10 (.seq r9_11 (.seq r9_12 (.seq r9_13 (.seq r9_14 (.seq r9_15 (.seq r9_16 (.seq r9_17 (.seq r9_18 r9_19)))))))))))))))))))] .normal [(0, T)] [] =
      go pg (den pg) (.c r9_8 :: [.c (.seq r9_9 (.seq r9_10 (.seq r9_11 (.seq r9_12 (.seq r9_13 (.seq r9_14 (.seq r9_15 (.seq r9_16 (.seq r9_17 (.seq r9_18 r9_19))))))))))]) .normal [(3, (elR false).lt false ls), (4, elI.lt false (mI (ordM ls))), (6, .i .i64 ((lenP ls : Nat) : Int)), (58, .b false)] [] := by
    clear mid fin9 q2 q3 c41M m1 m2 m3 m4 m5 ca s1 s2 c23 hls hX
    generalize elI.lt false (mI (ordM ls)) = O at *
    generalize (elR false).lt false ls = X at *
    generalize (lenP ls : Int) = LP at *
    generalize hrest : (DC.seq r9_9 (.seq r9_10 (.seq r9_11 (.seq r9_12 (.seq r9_13 (.seq r9_14 (.seq r9_15 (.seq r9_16 (.seq r9_17 (.seq r9_18 r9_19)))))))))) = rest
    generalize hr8 : r9_8 = r8
    simp (disch := omega) [r9_0, r9_1, r9_2, r9_3, r9_4, r9_5, r9_6, r9_7, gX0, gX1, gX2, gX3, gX4, gX5, gX6, gX7, gX8, gX9, gXa, gXb, gXc, gXd, gXe, gXf, gXg, gXh, gXi, gXj, gXk, gXl, gXm, gXn, gXo, gXp, gXq, gXr, gXs, gXt, gXu, gXv, gXw, gXx, k_mv, gXy, gXz, gX01, gX11, gX21, gX31, gX41, gX51, gX61, gX71, gX81, gX91, gXa1, gXb1, gXc1, gXd1, gXe1, gXf1, gXg1, gXh1, gXi1, gXj1, gXk1, gXl1, gXm1, gXn1, gXo1, gXp1, gXq1, gXr1, gXs1, gXt1, gXu1, k_mn, k_mx, gXv1, gXw1, gXx1, gXy1, gXz1, gX02, gX12, gX22, gX32, gX42, gX52, gX62, gX72, Dn.setLast, Dn.getLast, evalO, mapO, Dn.get, putE, gX82, gX92, gXa2, gXb2, TV.one, TV.isAgg, Dn.part, gXc2, negb, at0, at1, at2, at3, at4, dT, dF, gXd2, Option.bind_some, Option.map_some, c40, c41, c42, go_denK (c := l9_1) rfl, q1]
  rw [start]
  rcases mid [.c (.seq r9_9 (.seq r9_10 (.seq r9_11 (.seq r9_12 (.seq r9_13 (.seq r9_14 (.seq r9_15 (.seq r9_16 (.seq r9_17 (.seq r9_18 r9_19))))))))))] with e | e
  · rw [e]; exact fin9 _ (.inl rfl)
  · rw [e]; exact fin9 _ (.inr rfl)

end Go.Proofs.Try.Dn

