/-
  Pairs of dice with given ways: one face more of the second die.
-/
import Derived.Test.YtijeefncmgjlpaaEe
set_option linter.unusedSimpArgs false
set_option linter.unusedVariables false

set_option maxHeartbeats 1000000
namespace Go.Proofs.Try.Dn
open Go.Dn

variable {pg : Pg} {q : Cells} {n m : Nat} {c d : Int} {Y : TV} {lid : Nat} {tA tB : TV} {a b : List Int} {es : List (Int × TV)} {g : Int -> Option Nat} {H : Heap} {I : List (List Int × List Int) -> (Nat -> Prop) -> Heap -> Prop} {acc : List (List Int × List Int)} {own : Nat -> Prop}

theorem bb87_run (hF : Free pg) (hC : Con pg Y I) {k : Nat} (ih : Rec87 pg q n m c d Y lid I k) (h : GS q n m c d Y lid I tA tB a b es g acc own H) (ha : FcL a) (hb : FcL b) (han : a.length <= n) (hbm : b.length <= m) (hn8 : n <= 8) (hm8 : m <= 8) (hc0 : 0 <= c /\ c <= 60) (hd0 : 0 <= d /\ d <= 60)
  (hk : mass es < k + 1) (hm : mass es <= 1000) (hg : ∀ s, (g s).getD 0 ≠ 0 -> 0 <= s /\ s <= 1000) {l : Int} (hl : 0 <= l /\ l <= 1000) (hcap : b.length < m -> acc.length + 2 ^ ((n - a.length) + (m - (b.length + 1))) <= 1048576) (tl0 : Env) (K : List Fr) :
  ∃ tl tA' tB' own' H', go pg (den pg) (.c bb87 :: K) .normal ((1, .ref q.rA 0) :: (3, .ref q.rB 0) :: (4, .ref q.rM 0) :: (7, .ref q.rT 0) :: (8, .ref q.rG 0) :: (9, .ref q.rV 0) :: (10, .ref q.rF 0) :: (12, .i .i64 l) :: tl0) H = go pg (den pg) K .normal (tl) H' /\
   GS q n m c d Y lid I tA' tB' a b es g (acc ++ (if fits m b (l - c) = true then match takes g (l - c) a with | some g' => growP n m c d k a (b ++ [l - c]) g' | none => [] else [])) own' H' := by
 obtain ⟨ldA, ldB, ldN, ldM, ldY, ldS, ldF, ldT, ldV, ldG, lnA, lnB⟩ := h.lds pg hC.ag
 have hap : 0 < a.length := List.length_pos_iff.2 ha.2.1
 have hbp : 0 < b.length := List.length_pos_iff.2 hb.2.1
 obtain ⟨z, hz⟩ : ∃ z, b[b.length - 1]? = some z := ⟨_, List.getElem?_eq_getElem (by omega)⟩
 have hlast := getLastD_at hz
 have hzb := hb.2.2 z (List.mem_of_getElem? hz)
 obtain ⟨u, q1, q2⟩ := ixI (pg := pg) (R := den pg) h.gr.wB.view hz
 have wN : wrapR .i64 ((b.length : Int) - 1) = .i .i64 ((b.length - 1 : Nat) : Int) := by rw [show (b.length : Int) - 1 = ((b.length - 1 : Nat) : Int) by omega]; exact Yn (by omega)
 obtain ⟨s, hs⟩ : ∃ s, s = l - c := ⟨_, rfl⟩
 rw [<- hs]
 obtain ⟨N, hN⟩ : ∃ N, N = b.length := ⟨_, rfl⟩
 obtain ⟨N1, hN1⟩ : ∃ N1 : Int, N1 = ((b.length - 1 : Nat) : Int) := ⟨_, rfl⟩
 rw [<- hN1] at wN q1
 have ln' := lnB
 rw [<- hN] at wN ln'
 by_cases c1 : b.length < m
 ·have d1 : decide ((N : Int) < (m : Int)) = true := dT (by omega)
  by_cases c2 : z <= s
  ·have d2 : decide (z <= s) = true := dT c2
   by_cases c3 : s <= 60
   ·have d3 : decide (s <= (60 : Int)) = true := dT c3
    have hfit : fits m b s = true := by unfold fits; rw [hlast]; simp [c1, c2, c3]
    rw [if_pos hfit]
    rcases h.take hF hC (s := s) (by omega) h.gr.wA ha hm with ⟨t1, t2⟩ | ⟨es1, g1, H1, t1, t2, t3, h1⟩
    ·refine ⟨[(1, .ref q.rA 0), (3, .ref q.rB 0), (8, .ref q.rG 0), (9, .ref q.rV 0), (18, .i .i64 s), (129, .b false)], tA, tB, own, H, ?_, by rw [t1]; simpa using h⟩
     simp (disch := omega) [bb87, Z0, Z1, Z2, Z3, Z4, Z5, Z6, Z7, Z8, Z9, Za, Zb, Zc, Zd, Ze, Zf, Zg, Zh, Zi, Zj, Zk, Zl, Zm, Zn, Zo, Zp, Zq, Zr, Zs, Zt, Zu, Zv, Zw, Zx, k_mv, Zy, Zz, ZA, ZB, ZC, ZD, ZE, ZF, ZG, ZH, ZI, ZJ, ZK, ZL, ZM, ZN, ZO, ZP, ZQ, ZR, ZS, ZT, ZU, ZV, ZW, ZX, ZY, ZZ, Y0, Y1, Y2, Y3, Y4, k_mn, k_mx, Y5, Y6, Y7, Y8, Y9, Ya, Yb, Yc, Yd, Ye, Yf, Yg, Yh, Dn.setLast, Dn.getLast, evalO, mapO, Dn.get, putE, Yi, Yj, Yk, Yl, TV.one, TV.isAgg, Dn.part, Ym, negb, at0, at1, at2, at3, at4, dT, dF, Yn, Option.bind_some, Option.map_some, ldA, ldB, ldN, ldM, ldS, ldF, ldT, ln', <- hs, wN, d1, q1, q2, d2, d3, t2]
    ·simp only [t1]
     obtain ⟨ldA1, ldB1, ldN1, ldM1, ldY1, ldS1, ldF1, ldT1, ldV1, ldG1, lnA1, lnB1⟩ := h1.lds pg hC.ag
     obtain ⟨t', H2, H3, p1, p2, h3⟩ := h1.pushB hC s (by omega)
     obtain ⟨ldA3, ldB3, ldN3, ldM3, ldY3, ldS3, ldF3, ldT3, ldV3, ldG3, lnA3, lnB3⟩ := h3.lds pg hC.ag
     obtain ⟨tA4, tB4, own4, H4, r1, h4⟩ := ih _ _ _ _ _ _ _ _ _ h3 ha (hb.push (by omega) (by omega) c3) han (by simp; omega) (by omega) (by omega) (fun x hx => hg x (takes_keys s _ t1 x hx)) (by
      rw [List.length_append, List.length_singleton]
      exact hcap c1)
     have r1' : callRun pg (den pg) .sh [.fn 87 [] q.caps] H3 = some (.b true, H4) := r1
     obtain ⟨ldA4, ldB4, ldN4, ldM4, ldY4, ldS4, ldF4, ldT4, ldV4, ldG4, lnA4, lnB4⟩ := h4.lds pg hC.ag
     obtain ⟨t5, H5, u1, u2, h5⟩ := h4.cutB hC hb.2.1
     obtain ⟨ldA5, ldB5, ldN5, ldM5, ldY5, ldS5, ldF5, ldT5, ldV5, ldG5, lnA5, lnB5⟩ := h5.lds pg hC.ag
     obtain ⟨H6, v1, h6⟩ := h5.give hF hC (s := s) (by omega) h5.gr.wA ha (by omega) t1 h.gr.lft.cm
     have lnx := lnB4
     rw [List.length_append, List.length_singleton, <- hN] at lnx
     have wN' : wrapR .i64 (((N + 1 : Nat) : Int) - 1) = .i .i64 (N : Int) := by rw [show ((N + 1 : Nat) : Int) - 1 = (N : Int) by omega]; exact Yn (by omega)
     rw [<- hN] at u1
     obtain ⟨N2, hN2⟩ : ∃ N2 : Int, N2 = ((N + 1 : Nat) : Int) := ⟨_, rfl⟩
     rw [<- hN2] at wN'
     have lnx' : ∀ K, (lenK 0 tB4 K).map (fun (n : Nat) => TV.i .i64 (n : Int)) = some (.i .i64 N2) := fun K => by rw [lnx K, hN2]; rfl
     refine ⟨[(146, .b false)], _, _, own4, H6, ?_, h6⟩
     simp (disch := omega) [bb87, Z0, Z1, Z2, Z3, Z4, Z5, Z6, Z7, Z8, Z9, Za, Zb, Zc, Zd, Ze, Zf, Zg, Zh, Zi, Zj, Zk, Zl, Zm, Zn, Zo, Zp, Zq, Zr, Zs, Zt, Zu, Zv, Zw, Zx, k_mv, Zy, Zz, ZA, ZB, ZC, ZD, ZE, ZF, ZG, ZH, ZI, ZJ, ZK, ZL, ZM, ZN, ZO, ZP, ZQ, ZR, ZS, ZT, ZU, ZV, ZW, ZX, ZY, ZZ, Y0, Y1, Y2, Y3, Y4, k_mn, k_mx, Y5, Y6, Y7, Y8, Y9, Ya, Yb, Yc, Yd, Ye, Yf, Yg, Yh, Dn.setLast, Dn.getLast, evalO, mapO, Dn.get, putE, Yi, Yj, Yk, Yl, TV.one, TV.isAgg, Dn.part, Ym, negb, at0, at1, at2, at3, at4, dT, dF, Yn, Option.bind_some, Option.map_some, ldA, ldB, ldN, ldM, ldS, ldF, ldT, ln', <- hs, wN, d1, q1, q2, d2, d3, t3, ldA1, ldB1, p1, p2, ldG3, r1', ldA4, ldB4, lnx', wN', u1, u2, ldV5, ldA5, ldB5, v1]
   ·have d3 : decide (s <= (60 : Int)) = false := dF c3
    refine ⟨[(1, .ref q.rA 0), (3, .ref q.rB 0), (8, .ref q.rG 0), (9, .ref q.rV 0), (18, .i .i64 s), (129, .b false)], tA, tB, own, H, ?_, by rw [if_neg (show ¬ fits m b s = true by unfold fits; simp [c3]), List.append_nil]; exact h⟩
    simp (disch := omega) [bb87, Z0, Z1, Z2, Z3, Z4, Z5, Z6, Z7, Z8, Z9, Za, Zb, Zc, Zd, Ze, Zf, Zg, Zh, Zi, Zj, Zk, Zl, Zm, Zn, Zo, Zp, Zq, Zr, Zs, Zt, Zu, Zv, Zw, Zx, k_mv, Zy, Zz, ZA, ZB, ZC, ZD, ZE, ZF, ZG, ZH, ZI, ZJ, ZK, ZL, ZM, ZN, ZO, ZP, ZQ, ZR, ZS, ZT, ZU, ZV, ZW, ZX, ZY, ZZ, Y0, Y1, Y2, Y3, Y4, k_mn, k_mx, Y5, Y6, Y7, Y8, Y9, Ya, Yb, Yc, Yd, Ye, Yf, Yg, Yh, Dn.setLast, Dn.getLast, evalO, mapO, Dn.get, putE, Yi, Yj, Yk, Yl, TV.one, TV.isAgg, Dn.part, Ym, negb, at0, at1, at2, at3, at4, dT, dF, Yn, Option.bind_some, Option.map_some, ldA, ldB, ldN, ldM, ldS, ldF, ldT, ln', <- hs, wN, d1, q1, q2, d2, d3]
  ·have d2 : decide (z <= s) = false := dF c2
   refine ⟨[(1, .ref q.rA 0), (3, .ref q.rB 0), (8, .ref q.rG 0), (9, .ref q.rV 0), (18, .i .i64 s), (129, .b false)], tA, tB, own, H, ?_, by rw [if_neg (show ¬ fits m b s = true by unfold fits; rw [hlast]; simp [c2]), List.append_nil]; exact h⟩
   simp (disch := omega) [bb87, Z0, Z1, Z2, Z3, Z4, Z5, Z6, Z7, Z8, Z9, Za, Zb, Zc, Zd, Ze, Zf, Zg, Zh, Zi, Zj, Zk, Zl, Zm, Zn, Zo, Zp, Zq, Zr, Zs, Zt, Zu, Zv, Zw, Zx, k_mv, Zy, Zz, ZA, ZB, ZC, ZD, ZE, ZF, ZG, ZH, ZI, ZJ, ZK, ZL, ZM, ZN, ZO, ZP, ZQ, ZR, ZS, ZT, ZU, ZV, ZW, ZX, ZY, ZZ, Y0, Y1, Y2, Y3, Y4, k_mn, k_mx, Y5, Y6, Y7, Y8, Y9, Ya, Yb, Yc, Yd, Ye, Yf, Yg, Yh, Dn.setLast, Dn.getLast, evalO, mapO, Dn.get, putE, Yi, Yj, Yk, Yl, TV.one, TV.isAgg, Dn.part, Ym, negb, at0, at1, at2, at3, at4, dT, dF, Yn, Option.bind_some, Option.map_some, ldA, ldB, ldN, ldM, ldS, ldF, ldT, ln', <- hs, wN, d1, q1, q2, d2]
 ·have d1 : decide ((N : Int) < (m : Int)) = false := dF (by omega)
  refine ⟨[(1, .ref q.rA 0), (3, .ref q.rB 0), (8, .ref q.rG 0), (9, .ref q.rV 0), (18, .i .i64 s), (129, .b false)], tA, tB, own, H, ?_, by rw [if_neg (show ¬ fits m b s = true by unfold fits; simp [c1]), List.append_nil]; exact h⟩
  simp (disch := omega) [bb87, Z0, Z1, Z2, Z3, Z4, Z5, Z6, Z7, Z8, Z9, Za, Zb, Zc, Zd, Ze, Zf, Zg, Zh, Zi, Zj, Zk, Zl, Zm, Zn, Zo, Zp, Zq, Zr, Zs, Zt, Zu, Zv, Zw, Zx, k_mv, Zy, Zz, ZA, ZB, ZC, ZD, ZE, ZF, ZG, ZH, ZI, ZJ, ZK, ZL, ZM, ZN, ZO, ZP, ZQ, ZR, ZS, ZT, ZU, ZV, ZW, ZX, ZY, ZZ, Y0, Y1, Y2, Y3, Y4, k_mn, k_mx, Y5, Y6, Y7, Y8, Y9, Ya, Yb, Yc, Yd, Ye, Yf, Yg, Yh, Dn.setLast, Dn.getLast, evalO, mapO, Dn.get, putE, Yi, Yj, Yk, Yl, TV.one, TV.isAgg, Dn.part, Ym, negb, at0, at1, at2, at3, at4, dT, dF, Yn, Option.bind_some, Option.map_some, ldA, ldB, ldN, ldM, ldS, ldF, ldT, ln', <- hs, wN, d1]

end Go.Proofs.Try.Dn

