/-
  The reference's search, walked: the look through the sums; the two branches.
-/
import Derived.Test.YtijeefncmgjlpaaT9
import Derived.Test.YtijeefncmgjlpaaTB
set_option linter.unusedSimpArgs false
set_option linter.unusedVariables false

set_option maxHeartbeats 4000000
set_option maxRecDepth 100000
namespace Go.Proofs.Try.Dn
open Go.Dn

def r89_0 : DC :=
 (.reg [⟨(some 12), .mv, [.c .nilsl], none⟩] [0, 1, 2, 3, 4, 5])

def r89_1 : DC :=
 (.reg [⟨(some 22), .mv, [.t 2], none⟩,
   ⟨(some 23), .mv, [.t 3], none⟩,
   ⟨(some 24), (.bsl false [.nilsl] false 2 [0, 1]), [.t 22, .t 23], none⟩,
   ⟨(some 25), (.call (.pu [])), [.c (.fn 46 [] []), .t 24], none⟩,
   ⟨(some 13), .mv, [.t 25], none⟩] [0, 1, 2, 3, 4, 5, 13])

def r89_2 : DC :=
 (.reg [⟨(some 14), .mv, [.c (.i .i64 (-1))], none⟩] [0, 1, 2, 3, 4, 5, 13, 14])

def r89_3 : DC :=
 (.seq (.reg [⟨(some 15), .mv, [.c (.i .i64 0)], none⟩] [0, 1, 2, 3, 4, 5, 13, 14, 15])
 (.block 0
  l89_1))

def r89_4 : DC :=
 (.seq (.reg [⟨(some 66), .mv, [.t 14], none⟩,
   ⟨(some 67), (.binI .lss), [.t 66, .c (.i .i64 0)], none⟩] [0, 1, 2, 3, 4, 5, 14, 67])
 (.cond (.t 67)
  (.seq (.seq (.reg [⟨(some 68), .mv, [.t 2], none⟩,
    ⟨(some 69), (.len 0), [.t 68], none⟩,
    ⟨(some 70), .mv, [.t 0], none⟩,
    ⟨(some 71), (.binI .eql), [.t 69, .t 70], none⟩,
    ⟨(some 72), .mv, [.t 71], none⟩,
    ⟨(some 73), .mv, [.t 3], (some (72, true))⟩,
    ⟨(some 74), (.len 0), [.t 73], (some (72, true))⟩,
    ⟨(some 75), .mv, [.t 1], (some (72, true))⟩,
    ⟨(some 76), (.binI .eql), [.t 74, .t 75], (some (72, true))⟩,
    ⟨(some 77), .pick, [.t 72, .t 76, .c (.b false)], none⟩] [2, 3, 5, 77])
  (.cond (.t 77)
   (.seq (.reg [⟨(some 78), .mv, [.t 5], none⟩,
     ⟨(some 79), .mv, [.t 2], none⟩,
     ⟨(some 80), .mv, [.t 3], none⟩,
     ⟨(some 81), (.build [.nilsl, .nilsl] [(0, 1), (1, 1)]), [.t 79, .t 80], none⟩,
     ⟨(some 82), (.call .sh), [.c (.fn 106 [] []), .t 78, .t 81], none⟩,
     ⟨(some 12), .mv, [.t 82], none⟩] [12])
   .ret)
   .skip))
  (.seq (.reg [⟨(some 83), .mv, [.t 5], none⟩,
    ⟨(some 12), .mv, [.t 83], none⟩] [12])
  .ret))
  .skip))

def r89_5 : DC :=
 (.seq (.reg [⟨(some 84), .mv, [.t 14], none⟩,
   ⟨(some 85), .mv, [.t 3], none⟩,
   ⟨(some 86), (.ixS 1 false), [.t 85, .c (.i .i64 0)], none⟩,
   ⟨(some 87), (.ld 1 false), [.t 86], none⟩,
   ⟨(some 88), (.binI .sub), [.t 84, .t 87], none⟩,
   ⟨(some 18), .mv, [.t 88], none⟩] [0, 1, 2, 3, 4, 5, 14, 18])
 (.seq (.reg [⟨(some 89), .mv, [.t 2], none⟩,
   ⟨(some 90), (.len 0), [.t 89], none⟩,
   ⟨(some 91), .mv, [.t 0], none⟩,
   ⟨(some 92), (.binI .lss), [.t 90, .t 91], none⟩,
   ⟨(some 93), .mv, [.t 92], none⟩,
   ⟨(some 94), .mv, [.t 18], (some (93, true))⟩,
   ⟨(some 95), .mv, [.t 2], (some (93, true))⟩,
   ⟨(some 96), .mv, [.t 2], (some (93, true))⟩,
   ⟨(some 97), (.len 0), [.t 96], (some (93, true))⟩,
   ⟨(some 98), (.binI .sub), [.t 97, .c (.i .i64 1)], (some (93, true))⟩,
   ⟨(some 99), (.ixS 1 false), [.t 95, .t 98], (some (93, true))⟩,
   ⟨(some 100), (.ld 1 false), [.t 99], (some (93, true))⟩,
   ⟨(some 101), (.binI .geq), [.t 94, .t 100], (some (93, true))⟩,
   ⟨(some 102), .pick, [.t 93, .t 101, .c (.b false)], none⟩,
   ⟨(some 103), .mv, [.t 102], none⟩,
   ⟨(some 104), .mv, [.t 18], (some (103, true))⟩,
   ⟨(some 105), (.binI .leq), [.t 104, .c (.i .i64 60)], (some (103, true))⟩,
   ⟨(some 106), .pick, [.t 103, .t 105, .c (.b false)], none⟩] [0, 1, 2, 3, 4, 5, 14, 18, 106])
 (.cond (.t 106)
  (.seq (.reg [⟨(some 19), .mv, [.c .nilsl], none⟩] [0, 1, 2, 3, 4, 5, 14, 18, 19])
  (.seq (.reg [⟨(some 107), .mv, [.t 19], none⟩,
    ⟨(some 108), .mv, [.t 2], none⟩,
    ⟨(some 109), (.app 1 false 8), [.t 107, .t 108], none⟩,
    ⟨(some 19), .mv, [.t 109], none⟩] [0, 1, 2, 3, 4, 5, 14, 18, 19])
  (.reg [⟨(some 110), .mv, [.t 0], none⟩,
    ⟨(some 111), .mv, [.t 1], none⟩,
    ⟨(some 112), .mv, [.t 19], none⟩,
    ⟨(some 113), .mv, [.t 18], none⟩,
    ⟨(some 114), (.bsl false [(.i .i64 0)] false 1 [0]), [.t 113], none⟩,
    ⟨(some 115), (.app 1 false 8), [.t 112, .t 114], none⟩,
    ⟨(some 116), .mv, [.t 3], none⟩,
    ⟨(some 117), .mv, [.t 4], none⟩,
    ⟨(some 118), .mv, [.t 5], none⟩,
    ⟨(some 119), (.call .sh), [.c (.fn 89 [] []), .t 110, .t 111, .t 115, .t 116, .t 117, .t 118], none⟩,
    ⟨(some 5), .mv, [.t 119], none⟩] [0, 1, 2, 3, 4, 5, 14])))
  .skip)))

def r89_6 : DC :=
 (.seq (.reg [⟨(some 120), .mv, [.t 14], none⟩,
   ⟨(some 121), .mv, [.t 2], none⟩,
   ⟨(some 122), (.ixS 1 false), [.t 121, .c (.i .i64 0)], none⟩,
   ⟨(some 123), (.ld 1 false), [.t 122], none⟩,
   ⟨(some 124), (.binI .sub), [.t 120, .t 123], none⟩,
   ⟨(some 20), .mv, [.t 124], none⟩] [0, 1, 2, 3, 4, 5, 20])
 (.seq (.reg [⟨(some 125), .mv, [.t 3], none⟩,
   ⟨(some 126), (.len 0), [.t 125], none⟩,
   ⟨(some 127), .mv, [.t 1], none⟩,
   ⟨(some 128), (.binI .lss), [.t 126, .t 127], none⟩,
   ⟨(some 129), .mv, [.t 128], none⟩,
   ⟨(some 130), .mv, [.t 20], (some (129, true))⟩,
   ⟨(some 131), .mv, [.t 3], (some (129, true))⟩,
   ⟨(some 132), .mv, [.t 3], (some (129, true))⟩,
   ⟨(some 133), (.len 0), [.t 132], (some (129, true))⟩,
   ⟨(some 134), (.binI .sub), [.t 133, .c (.i .i64 1)], (some (129, true))⟩,
   ⟨(some 135), (.ixS 1 false), [.t 131, .t 134], (some (129, true))⟩,
   ⟨(some 136), (.ld 1 false), [.t 135], (some (129, true))⟩,
   ⟨(some 137), (.binI .geq), [.t 130, .t 136], (some (129, true))⟩,
   ⟨(some 138), .pick, [.t 129, .t 137, .c (.b false)], none⟩,
   ⟨(some 139), .mv, [.t 138], none⟩,
   ⟨(some 140), .mv, [.t 20], (some (139, true))⟩,
   ⟨(some 141), (.binI .leq), [.t 140, .c (.i .i64 60)], (some (139, true))⟩,
   ⟨(some 142), .pick, [.t 139, .t 141, .c (.b false)], none⟩] [0, 1, 2, 3, 4, 5, 20, 142])
 (.cond (.t 142)
  (.seq (.reg [⟨(some 21), .mv, [.c .nilsl], none⟩] [0, 1, 2, 3, 4, 5, 20, 21])
  (.seq (.reg [⟨(some 143), .mv, [.t 21], none⟩,
    ⟨(some 144), .mv, [.t 3], none⟩,
    ⟨(some 145), (.app 1 false 8), [.t 143, .t 144], none⟩,
    ⟨(some 21), .mv, [.t 145], none⟩] [0, 1, 2, 4, 5, 20, 21])
  (.reg [⟨(some 146), .mv, [.t 0], none⟩,
    ⟨(some 147), .mv, [.t 1], none⟩,
    ⟨(some 148), .mv, [.t 2], none⟩,
    ⟨(some 149), .mv, [.t 21], none⟩,
    ⟨(some 150), .mv, [.t 20], none⟩,
    ⟨(some 151), (.bsl false [(.i .i64 0)] false 1 [0]), [.t 150], none⟩,
    ⟨(some 152), (.app 1 false 8), [.t 149, .t 151], none⟩,
    ⟨(some 153), .mv, [.t 4], none⟩,
    ⟨(some 154), .mv, [.t 5], none⟩,
    ⟨(some 155), (.call .sh), [.c (.fn 89 [] []), .t 146, .t 147, .t 148, .t 152, .t 153, .t 154], none⟩,
    ⟨(some 5), .mv, [.t 155], none⟩] [5])))
  .skip)))

def r89_7 : DC :=
 (.reg [⟨(some 156), .mv, [.t 5], none⟩,
   ⟨(some 12), .mv, [.t 156], none⟩] [12])

def r89_8 : DC :=
 .ret

theorem c89_parts : c89 = (.seq r89_0 (.seq r89_1 (.seq r89_2 (.seq r89_3 (.seq r89_4 (.seq r89_5 (.seq r89_6 (.seq r89_7 r89_8)))))))) := rfl

theorem l89_1_all {pg : Pg} {N Mm tA tB O : TV} {hv G : Nat → Nat} {mx M L : Nat} (hL : L = max mx M) (hL6 : L ≤ 1000000) (hz : ∀ t, mx ≤ t → hv t = 0) {H : Heap} : ∀ (r s : Nat) (z : Int), s + r = L →
    match scanW hv (fun t => wtI G M (t : Int)) r s z with
    | none => den pg l89_1 [(0, N), (1, Mm), (2, tA), (3, tB), (4, elI.lt true (gL G M)), (5, O), (13, elI.lt false (gL hv mx)), (14, .i .i64 z), (15, .i .i64 (s : Int))] H = some ⟨.ret, [(12, O)], H⟩
    | some y => ∃ e, den pg l89_1 [(0, N), (1, Mm), (2, tA), (3, tB), (4, elI.lt true (gL G M)), (5, O), (13, elI.lt false (gL hv mx)), (14, .i .i64 z), (15, .i .i64 (s : Int))] H = some ⟨.exit 0, (0, N) :: (1, Mm) :: (2, tA) :: (3, tB) :: (4, elI.lt true (gL G M)) :: (5, O) :: (13, elI.lt false (gL hv mx)) :: (14, .i .i64 y) :: e, H⟩
  | 0, s, z, hs => by
    obtain rfl : s = L := by omega
    have l1 := lnB elI false (gL hv mx)
    have l2 := lnB elI true (gL G M)
    rw [gL_len] at l1 l2
    have d1 : decide ((s : Int) < (mx : Int)) = false := dF (by omega)
    have d2 : decide ((s : Int) < (M : Int)) = false := dF (by omega)
    refine ⟨[(15, .i .i64 (s : Int)), (35, .b false)], ?_⟩
    generalize elI.lt false (gL hv mx) = A at *
    generalize elI.lt true (gL G M) = B at *
    generalize (s : Int) = S at *
    generalize (mx : Int) = X at *
    generalize (M : Int) = Y at *
    rw [l89_1, den_loop]
    simp (disch := omega) [b89_0, gX0, gX1, gX2, gX3, gX4, gX5, gX6, gX7, gX8, gX9, gXa, gXb, gXc, gXd, gXe, gXf, gXg, gXh, gXi, gXj, gXk, gXl, gXm, gXn, gXo, gXp, gXq, gXr, gXs, gXt, gXu, gXv, gXw, gXx, k_mv, gXy, gXz, gX01, gX11, gX21, gX31, gX41, gX51, gX61, gX71, gX81, gX91, gXa1, gXb1, gXc1, gXd1, gXe1, gXf1, gXg1, gXh1, gXi1, gXj1, gXk1, gXl1, gXm1, gXn1, gXo1, gXp1, gXq1, gXr1, gXs1, gXt1, gXu1, k_mn, k_mx, gXv1, gXw1, gXx1, gXy1, gXz1, gX02, gX12, gX22, gX32, gX42, gX52, gX62, gX72, Dn.setLast, Dn.getLast, evalO, mapO, Dn.get, putE, gX82, gX92, gXa2, gXb2, TV.one, TV.isAgg, Dn.part, gXc2, negb, at0, at1, at2, at3, at4, dT, dF, gXd2, Option.bind_some, Option.map_some, l1, l2, d1, d2]
  | r + 1, s, z, hs => by
    have l1 := lnB elI false (gL hv mx)
    have l2 := lnB elI true (gL G M)
    rw [gL_len] at l1 l2
    have w2 : wrapR .i64 ((s : Int) + 1) = .i .i64 ((s + 1 : Nat) : Int) := by rw [← Int.natCast_succ]; exact gXd2 (by omega)
    -- the two numbers
    have key : ∀ (x y : Nat), x = hv s → y = wtI G M (s : Int) → den pg l89_1 [(0, N), (1, Mm), (2, tA), (3, tB), (4, elI.lt true (gL G M)), (5, O), (13, elI.lt false (gL hv mx)), (14, .i .i64 z), (15, .i .i64 (s : Int))] H =
        if y < x then some ⟨.ret, [(12, O)], H⟩ else den pg l89_1 [(0, N), (1, Mm), (2, tA), (3, tB), (4, elI.lt true (gL G M)), (5, O), (13, elI.lt false (gL hv mx)), (14, .i .i64 (if x < y ∧ z < 0 then (s : Int) else z)), (15, .i .i64 ((s + 1 : Nat) : Int))] H := by
      intro x y hx hy
      by_cases h1 : s < mx
      · have d1 : decide ((s : Int) < (mx : Int)) = true := dT (by omega)
        obtain ⟨p, p1, p2⟩ := ixI (pg := pg) (R := den pg) (ltV elI false H (gL hv mx)) (gL_at h1)
        rw [← hx] at p2
        by_cases h2 : s < M
        · have d2 : decide ((s : Int) < (M : Int)) = true := dT (by omega)
          obtain ⟨q, q1, q2⟩ := ixI (pg := pg) (R := den pg) (ltV elI true H (gL G M)) (gL_at h2)
          rw [show G s = y by rw [hy]; unfold wtI; rw [if_pos (by omega)]; simp] at q2
          by_cases c1 : y < x
          · rw [if_pos c1]
            have e1 : decide (((x : Nat) : Int) > ((y : Nat) : Int)) = true := dT (by omega)
            have e1' : decide (((y : Nat) : Int) < ((x : Nat) : Int)) = true := dT (by omega)
            clear hx hy
            generalize elI.lt false (gL hv mx) = A at *
            generalize elI.lt true (gL G M) = B at *
            generalize ((s + 1 : Nat) : Int) = S2 at *
            generalize (s : Int) = S at *
            generalize (mx : Int) = X at *
            generalize (M : Int) = Y at *
            conv => lhs; rw [l89_1, den_loop]
            simp (disch := omega) [l89_1, b89_0, gX0, gX1, gX2, gX3, gX4, gX5, gX6, gX7, gX8, gX9, gXa, gXb, gXc, gXd, gXe, gXf, gXg, gXh, gXi, gXj, gXk, gXl, gXm, gXn, gXo, gXp, gXq, gXr, gXs, gXt, gXu, gXv, gXw, gXx, k_mv, gXy, gXz, gX01, gX11, gX21, gX31, gX41, gX51, gX61, gX71, gX81, gX91, gXa1, gXb1, gXc1, gXd1, gXe1, gXf1, gXg1, gXh1, gXi1, gXj1, gXk1, gXl1, gXm1, gXn1, gXo1, gXp1, gXq1, gXr1, gXs1, gXt1, gXu1, k_mn, k_mx, gXv1, gXw1, gXx1, gXy1, gXz1, gX02, gX12, gX22, gX32, gX42, gX52, gX62, gX72, Dn.setLast, Dn.getLast, evalO, mapO, Dn.get, putE, gX82, gX92, gXa2, gXb2, TV.one, TV.isAgg, Dn.part, gXc2, negb, at0, at1, at2, at3, at4, dT, dF, gXd2, Option.bind_some, Option.map_some, l1, l2, d1, d2, p1, p2, q1, q2, w2, e1, e1']
          · rw [if_neg c1]
            have e1 : decide (((x : Nat) : Int) > ((y : Nat) : Int)) = false := dF (by omega)
            have e1' : decide (((y : Nat) : Int) < ((x : Nat) : Int)) = false := dF (by omega)
            by_cases c2 : x < y ∧ z < 0
            · rw [if_pos c2]
              have e2 : decide (((x : Nat) : Int) < ((y : Nat) : Int)) = true := dT (by omega)
              have e3 : decide (z < 0) = true := dT c2.2
              clear hx hy
              generalize elI.lt false (gL hv mx) = A at *
              generalize elI.lt true (gL G M) = B at *
              generalize ((s + 1 : Nat) : Int) = S2 at *
              generalize (s : Int) = S at *
              generalize (mx : Int) = X at *
              generalize (M : Int) = Y at *
              conv => lhs; rw [l89_1, den_loop]
              simp (disch := omega) [l89_1, b89_0, gX0, gX1, gX2, gX3, gX4, gX5, gX6, gX7, gX8, gX9, gXa, gXb, gXc, gXd, gXe, gXf, gXg, gXh, gXi, gXj, gXk, gXl, gXm, gXn, gXo, gXp, gXq, gXr, gXs, gXt, gXu, gXv, gXw, gXx, k_mv, gXy, gXz, gX01, gX11, gX21, gX31, gX41, gX51, gX61, gX71, gX81, gX91, gXa1, gXb1, gXc1, gXd1, gXe1, gXf1, gXg1, gXh1, gXi1, gXj1, gXk1, gXl1, gXm1, gXn1, gXo1, gXp1, gXq1, gXr1, gXs1, gXt1, gXu1, k_mn, k_mx, gXv1, gXw1, gXx1, gXy1, gXz1, gX02, gX12, gX22, gX32, gX42, gX52, gX62, gX72, Dn.setLast, Dn.getLast, evalO, mapO, Dn.get, putE, gX82, gX92, gXa2, gXb2, TV.one, TV.isAgg, Dn.part, gXc2, negb, at0, at1, at2, at3, at4, dT, dF, gXd2, Option.bind_some, Option.map_some, l1, l2, d1, d2, p1, p2, q1, q2, w2, e1, e1', e2, e3]
            · rw [if_neg c2]
              by_cases c3 : x < y
              · have e2 : decide (((x : Nat) : Int) < ((y : Nat) : Int)) = true := dT (by omega)
                have e3 : decide (z < 0) = false := dF (by omega)
                clear hx hy
                generalize elI.lt false (gL hv mx) = A at *
                generalize elI.lt true (gL G M) = B at *
                generalize ((s + 1 : Nat) : Int) = S2 at *
                generalize (s : Int) = S at *
                generalize (mx : Int) = X at *
                generalize (M : Int) = Y at *
                conv => lhs; rw [l89_1, den_loop]
                simp (disch := omega) [l89_1, b89_0, gX0, gX1, gX2, gX3, gX4, gX5, gX6, gX7, gX8, gX9, gXa, gXb, gXc, gXd, gXe, gXf, gXg, gXh, gXi, gXj, gXk, gXl, gXm, gXn, gXo, gXp, gXq, gXr, gXs, gXt, gXu, gXv, gXw, gXx, k_mv, gXy, gXz, gX01, gX11, gX21, gX31, gX41, gX51, gX61, gX71, gX81, gX91, gXa1, gXb1, gXc1, gXd1, gXe1, gXf1, gXg1, gXh1, gXi1, gXj1, gXk1, gXl1, gXm1, gXn1, gXo1, gXp1, gXq1, gXr1, gXs1, gXt1, gXu1, k_mn, k_mx, gXv1, gXw1, gXx1, gXy1, gXz1, gX02, gX12, gX22, gX32, gX42, gX52, gX62, gX72, Dn.setLast, Dn.getLast, evalO, mapO, Dn.get, putE, gX82, gX92, gXa2, gXb2, TV.one, TV.isAgg, Dn.part, gXc2, negb, at0, at1, at2, at3, at4, dT, dF, gXd2, Option.bind_some, Option.map_some, l1, l2, d1, d2, p1, p2, q1, q2, w2, e1, e1', e2, e3]
              · have e2 : decide (((x : Nat) : Int) < ((y : Nat) : Int)) = false := dF (by omega)
                clear hx hy
                generalize elI.lt false (gL hv mx) = A at *
                generalize elI.lt true (gL G M) = B at *
                generalize ((s + 1 : Nat) : Int) = S2 at *
                generalize (s : Int) = S at *
                generalize (mx : Int) = X at *
                generalize (M : Int) = Y at *
                conv => lhs; rw [l89_1, den_loop]
                simp (disch := omega) [l89_1, b89_0, gX0, gX1, gX2, gX3, gX4, gX5, gX6, gX7, gX8, gX9, gXa, gXb, gXc, gXd, gXe, gXf, gXg, gXh, gXi, gXj, gXk, gXl, gXm, gXn, gXo, gXp, gXq, gXr, gXs, gXt, gXu, gXv, gXw, gXx, k_mv, gXy, gXz, gX01, gX11, gX21, gX31, gX41, gX51, gX61, gX71, gX81, gX91, gXa1, gXb1, gXc1, gXd1, gXe1, gXf1, gXg1, gXh1, gXi1, gXj1, gXk1, gXl1, gXm1, gXn1, gXo1, gXp1, gXq1, gXr1, gXs1, gXt1, gXu1, k_mn, k_mx, gXv1, gXw1, gXx1, gXy1, gXz1, gX02, gX12, gX22, gX32, gX42, gX52, gX62, gX72, Dn.setLast, Dn.getLast, evalO, mapO, Dn.get, putE, gX82, gX92, gXa2, gXb2, TV.one, TV.isAgg, Dn.part, gXc2, negb, at0, at1, at2, at3, at4, dT, dF, gXd2, Option.bind_some, Option.map_some, l1, l2, d1, d2, p1, p2, q1, q2, w2, e1, e1', e2]
        · have d2 : decide ((s : Int) < (M : Int)) = false := dF (by omega)
          have hy0 : y = 0 := by rw [hy]; unfold wtI; rw [if_neg (by omega)]
          subst hy0
          by_cases c1 : 0 < x
          · rw [if_pos c1]
            have e1 : decide (((x : Nat) : Int) > (0 : Int)) = true := dT (by omega)
            have e1' : decide ((0 : Int) < ((x : Nat) : Int)) = true := dT (by omega)
            clear hx hy
            generalize elI.lt false (gL hv mx) = A at *
            generalize elI.lt true (gL G M) = B at *
            generalize ((s + 1 : Nat) : Int) = S2 at *
            generalize (s : Int) = S at *
            generalize (mx : Int) = X at *
            generalize (M : Int) = Y at *
            conv => lhs; rw [l89_1, den_loop]
            simp (disch := omega) [l89_1, b89_0, gX0, gX1, gX2, gX3, gX4, gX5, gX6, gX7, gX8, gX9, gXa, gXb, gXc, gXd, gXe, gXf, gXg, gXh, gXi, gXj, gXk, gXl, gXm, gXn, gXo, gXp, gXq, gXr, gXs, gXt, gXu, gXv, gXw, gXx, k_mv, gXy, gXz, gX01, gX11, gX21, gX31, gX41, gX51, gX61, gX71, gX81, gX91, gXa1, gXb1, gXc1, gXd1, gXe1, gXf1, gXg1, gXh1, gXi1, gXj1, gXk1, gXl1, gXm1, gXn1, gXo1, gXp1, gXq1, gXr1, gXs1, gXt1, gXu1, k_mn, k_mx, gXv1, gXw1, gXx1, gXy1, gXz1, gX02, gX12, gX22, gX32, gX42, gX52, gX62, gX72, Dn.setLast, Dn.getLast, evalO, mapO, Dn.get, putE, gX82, gX92, gXa2, gXb2, TV.one, TV.isAgg, Dn.part, gXc2, negb, at0, at1, at2, at3, at4, dT, dF, gXd2, Option.bind_some, Option.map_some, l1, l2, d1, d2, p1, p2, w2, e1, e1']
          · rw [if_neg c1]
            have e1 : decide (((x : Nat) : Int) > (0 : Int)) = false := dF (by omega)
            have e1' : decide ((0 : Int) < ((x : Nat) : Int)) = false := dF (by omega)
            rw [if_neg (by omega)]
            have e2 : decide (((x : Nat) : Int) < (0 : Int)) = false := dF (by omega)
            clear hx hy
            generalize elI.lt false (gL hv mx) = A at *
            generalize elI.lt true (gL G M) = B at *
            generalize ((s + 1 : Nat) : Int) = S2 at *
            generalize (s : Int) = S at *
            generalize (mx : Int) = X at *
            generalize (M : Int) = Y at *
            conv => lhs; rw [l89_1, den_loop]
            simp (disch := omega) [l89_1, b89_0, gX0, gX1, gX2, gX3, gX4, gX5, gX6, gX7, gX8, gX9, gXa, gXb, gXc, gXd, gXe, gXf, gXg, gXh, gXi, gXj, gXk, gXl, gXm, gXn, gXo, gXp, gXq, gXr, gXs, gXt, gXu, gXv, gXw, gXx, k_mv, gXy, gXz, gX01, gX11, gX21, gX31, gX41, gX51, gX61, gX71, gX81, gX91, gXa1, gXb1, gXc1, gXd1, gXe1, gXf1, gXg1, gXh1, gXi1, gXj1, gXk1, gXl1, gXm1, gXn1, gXo1, gXp1, gXq1, gXr1, gXs1, gXt1, gXu1, k_mn, k_mx, gXv1, gXw1, gXx1, gXy1, gXz1, gX02, gX12, gX22, gX32, gX42, gX52, gX62, gX72, Dn.setLast, Dn.getLast, evalO, mapO, Dn.get, putE, gX82, gX92, gXa2, gXb2, TV.one, TV.isAgg, Dn.part, gXc2, negb, at0, at1, at2, at3, at4, dT, dF, gXd2, Option.bind_some, Option.map_some, l1, l2, d1, d2, p1, p2, w2, e1, e1', e2]
      · have d1 : decide ((s : Int) < (mx : Int)) = false := dF (by omega)
        have h2 : s < M := by omega
        have d2 : decide ((s : Int) < (M : Int)) = true := dT (by omega)
        have hx0 : x = 0 := by rw [hx]; exact hz s (by omega)
        obtain ⟨q, q1, q2⟩ := ixI (pg := pg) (R := den pg) (ltV elI true H (gL G M)) (gL_at h2)
        rw [show G s = y by rw [hy]; unfold wtI; rw [if_pos (by omega)]; simp] at q2
        subst hx0
        rw [if_neg (by omega)]
        have e1 : decide ((0 : Int) > ((y : Nat) : Int)) = false := dF (by omega)
        have e1' : decide (((y : Nat) : Int) < (0 : Int)) = false := dF (by omega)
        by_cases c2 : 0 < y ∧ z < 0
        · rw [if_pos c2]
          have e2 : decide ((0 : Int) < ((y : Nat) : Int)) = true := dT (by omega)
          have e3 : decide (z < 0) = true := dT c2.2
          clear hx hy
          generalize elI.lt false (gL hv mx) = A at *
          generalize elI.lt true (gL G M) = B at *
          generalize ((s + 1 : Nat) : Int) = S2 at *
          generalize (s : Int) = S at *
          generalize (mx : Int) = X at *
          generalize (M : Int) = Y at *
          conv => lhs; rw [l89_1, den_loop]
          simp (disch := omega) [l89_1, b89_0, gX0, gX1, gX2, gX3, gX4, gX5, gX6, gX7, gX8, gX9, gXa, gXb, gXc, gXd, gXe, gXf, gXg, gXh, gXi, gXj, gXk, gXl, gXm, gXn, gXo, gXp, gXq, gXr, gXs, gXt, gXu, gXv, gXw, gXx, k_mv, gXy, gXz, gX01, gX11, gX21, gX31, gX41, gX51, gX61, gX71, gX81, gX91, gXa1, gXb1, gXc1, gXd1, gXe1, gXf1, gXg1, gXh1, gXi1, gXj1, gXk1, gXl1, gXm1, gXn1, gXo1, gXp1, gXq1, gXr1, gXs1, gXt1, gXu1, k_mn, k_mx, gXv1, gXw1, gXx1, gXy1, gXz1, gX02, gX12, gX22, gX32, gX42, gX52, gX62, gX72, Dn.setLast, Dn.getLast, evalO, mapO, Dn.get, putE, gX82, gX92, gXa2, gXb2, TV.one, TV.isAgg, Dn.part, gXc2, negb, at0, at1, at2, at3, at4, dT, dF, gXd2, Option.bind_some, Option.map_some, l1, l2, d1, d2, q1, q2, w2, e1, e1', e2, e3]
        · rw [if_neg c2]
          by_cases c3 : 0 < y
          · have e2 : decide ((0 : Int) < ((y : Nat) : Int)) = true := dT (by omega)
            have e3 : decide (z < 0) = false := dF (by omega)
            clear hx hy
            generalize elI.lt false (gL hv mx) = A at *
            generalize elI.lt true (gL G M) = B at *
            generalize ((s + 1 : Nat) : Int) = S2 at *
            generalize (s : Int) = S at *
            generalize (mx : Int) = X at *
            generalize (M : Int) = Y at *
            conv => lhs; rw [l89_1, den_loop]
            simp (disch := omega) [l89_1, b89_0, gX0, gX1, gX2, gX3, gX4, gX5, gX6, gX7, gX8, gX9, gXa, gXb, gXc, gXd, gXe, gXf, gXg, gXh, gXi, gXj, gXk, gXl, gXm, gXn, gXo, gXp, gXq, gXr, gXs, gXt, gXu, gXv, gXw, gXx, k_mv, gXy, gXz, gX01, gX11, gX21, gX31, gX41, gX51, gX61, gX71, gX81, gX91, gXa1, gXb1, gXc1, gXd1, gXe1, gXf1, gXg1, gXh1, gXi1, gXj1, gXk1, gXl1, gXm1, gXn1, gXo1, gXp1, gXq1, gXr1, gXs1, gXt1, gXu1, k_mn, k_mx, gXv1, gXw1, gXx1, gXy1, gXz1, gX02, gX12, gX22, gX32, gX42, gX52, gX62, gX72, Dn.setLast, Dn.getLast, evalO, mapO, Dn.get, putE, gX82, gX92, gXa2, gXb2, TV.one, TV.isAgg, Dn.part, gXc2, negb, at0, at1, at2, at3, at4, dT, dF, gXd2, Option.bind_some, Option.map_some, l1, l2, d1, d2, q1, q2, w2, e1, e1', e2, e3]
          · have e2 : decide ((0 : Int) < ((y : Nat) : Int)) = false := dF (by omega)
            clear hx hy
            generalize elI.lt false (gL hv mx) = A at *
            generalize elI.lt true (gL G M) = B at *
            generalize ((s + 1 : Nat) : Int) = S2 at *
            generalize (s : Int) = S at *
            generalize (mx : Int) = X at *
            generalize (M : Int) = Y at *
            conv => lhs; rw [l89_1, den_loop]
            simp (disch := omega) [l89_1, b89_0, gX0, gX1, gX2, gX3, gX4, gX5, gX6, gX7, gX8, gX9, gXa, gXb, gXc, gXd, gXe, gXf, gXg, gXh, gXi, gXj, gXk, gXl, gXm, gXn, gXo, gXp, gXq, gXr, gXs, gXt, gXu, gXv, gXw, gXx, k_mv, gXy, gXz, gX01, gX11, gX21, gX31, gX41, gX51, gX61, gX71, gX81, gX91, gXa1, gXb1, gXc1, gXd1, gXe1, gXf1, gXg1, gXh1, gXi1, gXj1, gXk1, gXl1, gXm1, gXn1, gXo1, gXp1, gXq1, gXr1, gXs1, gXt1, gXu1, k_mn, k_mx, gXv1, gXw1, gXx1, gXy1, gXz1, gX02, gX12, gX22, gX32, gX42, gX52, gX62, gX72, Dn.setLast, Dn.getLast, evalO, mapO, Dn.get, putE, gX82, gX92, gXa2, gXb2, TV.one, TV.isAgg, Dn.part, gXc2, negb, at0, at1, at2, at3, at4, dT, dF, gXd2, Option.bind_some, Option.map_some, l1, l2, d1, d2, q1, q2, w2, e1, e1', e2]
    have key := key (hv s) (wtI G M (s : Int)) rfl rfl
    unfold scanW
    by_cases h0 : wtI G M (s : Int) < hv s
    · rw [if_pos h0] at key ⊢
      exact key
    · rw [if_neg h0] at key ⊢
      rw [key]
      exact l89_1_all hL hL6 hz r (s + 1) _ (by omega)

end Go.Proofs.Try.Dn

