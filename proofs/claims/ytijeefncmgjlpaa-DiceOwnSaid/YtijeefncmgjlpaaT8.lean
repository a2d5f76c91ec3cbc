/-
  The reference's order of pairs, and pairs compared: functions of values.
-/
import Derived.Test.YtijeefncmgjlpaaT6
import Derived.Test.YtijeefncmgjlpaaEl
import Derived.Test.YtijeefncmgjlpaaR6
set_option linter.unusedSimpArgs false
set_option linter.unusedVariables false

set_option maxHeartbeats 2000000
namespace Go.Proofs.Try.Dn
open Go.Dn

theorem lnB {α : Type} (E : El α) (b : Bool) (l : List α) (K : Heap) : (lenK 0 (E.lt b l) K).map (fun (n : Nat) => TV.i .i64 (n : Int)) = some (.i .i64 (l.length : Int)) := by
 rw [(ltV E b K l).lenK]; rfl

/-! the law's own functions -/
theorem take_stepI {α : Type} {a b : List α} {k : Nat} {x : α} (h : a.take k = b.take k) (ha : a[k]? = some x) (hb : b[k]? = some x) : a.take (k + 1) = b.take (k + 1) := by
 rw [List.take_add_one, List.take_add_one, h, ha, hb]

theorem l48_1_all {pg : Pg} {a b : List Int} (hn : a.length = b.length) (h6 : a.length <= 1000000) : ∀ (r k : Nat), k + r = a.length -> a.take k = b.take k ->
  (a = b -> ∃ e, den pg l48_1 [(0, elI.lt true a), (1, elI.lt true b), (5, .i .i64 (k : Int))] [] = some ⟨.exit 0, e, []⟩) /\
  (a ≠ b -> den pg l48_1 [(0, elI.lt true a), (1, elI.lt true b), (5, .i .i64 (k : Int))] [] = some ⟨.ret, [(4, .b false)], []⟩)
 | 0, k, hk, ht => by
  obtain rfl : k = a.length := by omega
  rw [List.take_length, hn, List.take_length] at ht
  have l1 := lnB elI true a
  refine ⟨fun _ => ⟨[(0, elI.lt true a), (1, elI.lt true b), (5, .i .i64 (a.length : Int)), (14, .b false)], ?_⟩, fun h => absurd ht h⟩
  generalize elI.lt true a = A at *
  generalize elI.lt true b = B at *
  generalize (a.length : Int) = M at *
  rw [l48_1, den_loop]
  simp (disch := omega) [b48_0, Z0, Z1, Z2, Z3, Z4, Z5, Z6, Z7, Z8, Z9, Za, Zb, Zc, Zd, Ze, Zf, Zg, Zh, Zi, Zj, Zk, Zl, Zm, Zn, Zo, Zp, Zq, Zr, Zs, Zt, Zu, Zv, Zw, Zx, k_mv, Zy, Zz, ZA, ZB, ZC, ZD, ZE, ZF, ZG, ZH, ZI, ZJ, ZK, ZL, ZM, ZN, ZO, ZP, ZQ, ZR, ZS, ZT, ZU, ZV, ZW, ZX, ZY, ZZ, Y0, Y1, Y2, Y3, Y4, k_mn, k_mx, Y5, Y6, Y7, Y8, Y9, Ya, Yb, Yc, Yd, Ye, Yf, Yg, Yh, Dn.setLast, Dn.getLast, evalO, mapO, Dn.get, putE, Yi, Yj, Yk, Yl, TV.one, TV.isAgg, Dn.part, Ym, negb, at0, at1, at2, at3, at4, dT, dF, Yn, Option.bind_some, Option.map_some, l1]
 | r + 1, k, hk, ht => by
  have l1 := lnB elI true a
  obtain ⟨x, hx⟩ : ∃ x, a[k]? = some x := ⟨_, List.getElem?_eq_getElem (by omega)⟩
  obtain ⟨y, hy⟩ : ∃ y, b[k]? = some y := ⟨_, List.getElem?_eq_getElem (by omega)⟩
  obtain ⟨p, p1, p2⟩ := ixI (pg := pg) (R := den pg) (ltV elI true [] a) hx
  obtain ⟨q, q1, q2⟩ := ixI (pg := pg) (R := den pg) (ltV elI true [] b) hy
  have w2 : wrapR .i64 ((k : Int) + 1) = .i .i64 ((k + 1 : Nat) : Int) := by rw [<- Int.natCast_succ]; exact Yn (by omega)
  have dd : decide ((k : Int) < (a.length : Int)) = true := dT (by omega)
  by_cases he : x = y
  ·subst he
   have ih := l48_1_all (pg := pg) hn h6 r (k + 1) (by omega) (take_stepI ht hx hy)
   have st : den pg l48_1 [(0, elI.lt true a), (1, elI.lt true b), (5, .i .i64 (k : Int))] [] = den pg l48_1 [(0, elI.lt true a), (1, elI.lt true b), (5, .i .i64 ((k + 1 : Nat) : Int))] [] := by
    clear ih ht hn
    generalize elI.lt true a = A at *
    generalize elI.lt true b = B at *
    generalize (a.length : Int) = M at *
    generalize ((k + 1 : Nat) : Int) = K2 at *
    generalize (k : Int) = K at *
    conv => lhs; rw [l48_1, den_loop]
    simp (disch := omega) [l48_1, b48_0, Z0, Z1, Z2, Z3, Z4, Z5, Z6, Z7, Z8, Z9, Za, Zb, Zc, Zd, Ze, Zf, Zg, Zh, Zi, Zj, Zk, Zl, Zm, Zn, Zo, Zp, Zq, Zr, Zs, Zt, Zu, Zv, Zw, Zx, k_mv, Zy, Zz, ZA, ZB, ZC, ZD, ZE, ZF, ZG, ZH, ZI, ZJ, ZK, ZL, ZM, ZN, ZO, ZP, ZQ, ZR, ZS, ZT, ZU, ZV, ZW, ZX, ZY, ZZ, Y0, Y1, Y2, Y3, Y4, k_mn, k_mx, Y5, Y6, Y7, Y8, Y9, Ya, Yb, Yc, Yd, Ye, Yf, Yg, Yh, Dn.setLast, Dn.getLast, evalO, mapO, Dn.get, putE, Yi, Yj, Yk, Yl, TV.one, TV.isAgg, Dn.part, Ym, negb, at0, at1, at2, at3, at4, dT, dF, Yn, Option.bind_some, Option.map_some, l1, dd, p1, p2, q1, q2, w2]
   exact ⟨fun h => by rw [st]; exact ih.1 h, fun h => by rw [st]; exact ih.2 h⟩
  ·refine ⟨fun h => ?_, fun h => ?_⟩
   ·rw [h, hy] at hx
    exact absurd (Option.some.inj hx).symm he
   ·clear ht hn h hx hy
    generalize elI.lt true a = A at *
    generalize elI.lt true b = B at *
    generalize (a.length : Int) = M at *
    generalize (k : Int) = K at *
    rw [l48_1, den_loop]
    simp (disch := omega) [l48_1, b48_0, Z0, Z1, Z2, Z3, Z4, Z5, Z6, Z7, Z8, Z9, Za, Zb, Zc, Zd, Ze, Zf, Zg, Zh, Zi, Zj, Zk, Zl, Zm, Zn, Zo, Zp, Zq, Zr, Zs, Zt, Zu, Zv, Zw, Zx, k_mv, Zy, Zz, ZA, ZB, ZC, ZD, ZE, ZF, ZG, ZH, ZI, ZJ, ZK, ZL, ZM, ZN, ZO, ZP, ZQ, ZR, ZS, ZT, ZU, ZV, ZW, ZX, ZY, ZZ, Y0, Y1, Y2, Y3, Y4, k_mn, k_mx, Y5, Y6, Y7, Y8, Y9, Ya, Yb, Yc, Yd, Ye, Yf, Yg, Yh, Dn.setLast, Dn.getLast, evalO, mapO, Dn.get, putE, Yi, Yj, Yk, Yl, TV.one, TV.isAgg, Dn.part, Ym, negb, at0, at1, at2, at3, at4, dT, dF, Yn, Option.bind_some, Option.map_some, l1, dd, p1, p2, q1, q2, he]

theorem fn48 {pg : Pg} (hF : Free pg) (a b : List Int) (ha : a.length <= 1000000) (hb : b.length <= 1000000) : PFn pg 48 [elI.lt true a, elI.lt true b] (.b (decide (a = b))) := by
 refine .of1 (x := .ret) (e := [(4, .b (decide (a = b)))]) (H' := []) (hF.S _ _) (d := d48) (by rw [hF.F]; rfl) rfl ?_ (.inl rfl) rfl (by simp [sn_i, sn_b, Yo, Yp, Yq, Yr, Ys, Yt, Yu, Yv, Yw, Yx, Yy, Yz, mapO, elems])
 have l1 := lnB elI true a
 have l2 := lnB elI true b
 by_cases hn : a.length = b.length
 ·obtain ⟨r1, r2⟩ := l48_1_all (pg := pg) hn ha a.length 0 (by omega) rfl
  rw [<- hn] at l2
  simp only [Int.natCast_zero] at r1 r2
  by_cases he : a = b
  ·obtain ⟨e, r⟩ := r1 he
   rw [decide_eq_true he]
   clear r1 r2 hn he
   generalize elI.lt true a = A at *
   generalize elI.lt true b = B at *
   generalize (a.length : Int) = M at *
   simp (disch := omega) [d48, c48, zipE, Z0, Z1, Z2, Z3, Z4, Z5, Z6, Z7, Z8, Z9, Za, Zb, Zc, Zd, Ze, Zf, Zg, Zh, Zi, Zj, Zk, Zl, Zm, Zn, Zo, Zp, Zq, Zr, Zs, Zt, Zu, Zv, Zw, Zx, k_mv, Zy, Zz, ZA, ZB, ZC, ZD, ZE, ZF, ZG, ZH, ZI, ZJ, ZK, ZL, ZM, ZN, ZO, ZP, ZQ, ZR, ZS, ZT, ZU, ZV, ZW, ZX, ZY, ZZ, Y0, Y1, Y2, Y3, Y4, k_mn, k_mx, Y5, Y6, Y7, Y8, Y9, Ya, Yb, Yc, Yd, Ye, Yf, Yg, Yh, Dn.setLast, Dn.getLast, evalO, mapO, Dn.get, putE, Yi, Yj, Yk, Yl, TV.one, TV.isAgg, Dn.part, Ym, negb, at0, at1, at2, at3, at4, dT, dF, Yn, Option.bind_some, Option.map_some, l1, l2, go_denK (c := l48_1) rfl, r]
  ·have r := r2 he
   rw [decide_eq_false he]
   clear r1 r2 hn he
   generalize elI.lt true a = A at *
   generalize elI.lt true b = B at *
   generalize (a.length : Int) = M at *
   simp (disch := omega) [d48, c48, zipE, Z0, Z1, Z2, Z3, Z4, Z5, Z6, Z7, Z8, Z9, Za, Zb, Zc, Zd, Ze, Zf, Zg, Zh, Zi, Zj, Zk, Zl, Zm, Zn, Zo, Zp, Zq, Zr, Zs, Zt, Zu, Zv, Zw, Zx, k_mv, Zy, Zz, ZA, ZB, ZC, ZD, ZE, ZF, ZG, ZH, ZI, ZJ, ZK, ZL, ZM, ZN, ZO, ZP, ZQ, ZR, ZS, ZT, ZU, ZV, ZW, ZX, ZY, ZZ, Y0, Y1, Y2, Y3, Y4, k_mn, k_mx, Y5, Y6, Y7, Y8, Y9, Ya, Yb, Yc, Yd, Ye, Yf, Yg, Yh, Dn.setLast, Dn.getLast, evalO, mapO, Dn.get, putE, Yi, Yj, Yk, Yl, TV.one, TV.isAgg, Dn.part, Ym, negb, at0, at1, at2, at3, at4, dT, dF, Yn, Option.bind_some, Option.map_some, l1, l2, go_denK (c := l48_1) rfl, r]
 ·have he : a ≠ b := fun h => hn (congrArg List.length h)
  rw [decide_eq_false he]
  have hn' : ¬ (a.length : Int) = (b.length : Int) := by omega
  clear hn he
  generalize elI.lt true a = A at *
  generalize elI.lt true b = B at *
  generalize (a.length : Int) = M at *
  generalize (b.length : Int) = N at *
  simp (disch := omega) [d48, c48, zipE, Z0, Z1, Z2, Z3, Z4, Z5, Z6, Z7, Z8, Z9, Za, Zb, Zc, Zd, Ze, Zf, Zg, Zh, Zi, Zj, Zk, Zl, Zm, Zn, Zo, Zp, Zq, Zr, Zs, Zt, Zu, Zv, Zw, Zx, k_mv, Zy, Zz, ZA, ZB, ZC, ZD, ZE, ZF, ZG, ZH, ZI, ZJ, ZK, ZL, ZM, ZN, ZO, ZP, ZQ, ZR, ZS, ZT, ZU, ZV, ZW, ZX, ZY, ZZ, Y0, Y1, Y2, Y3, Y4, k_mn, k_mx, Y5, Y6, Y7, Y8, Y9, Ya, Yb, Yc, Yd, Ye, Yf, Yg, Yh, Dn.setLast, Dn.getLast, evalO, mapO, Dn.get, putE, Yi, Yj, Yk, Yl, TV.one, TV.isAgg, Dn.part, Ym, negb, at0, at1, at2, at3, at4, dT, dF, Yn, Option.bind_some, Option.map_some, l1, l2, hn']

theorem call48 {pg : Pg} (hF : Free pg) {A B : TV} {H : Heap} {a b : List Int} (ha : snap .borrow H 9 A = some (elI.lt true a)) (hb : snap .borrow H 9 B = some (elI.lt true b)) (h5 : a.length <= 1000000) (h6 : b.length <= 1000000) : callRun pg (den pg) (.pu []) [.fn 48 [] [], A, B] H = some (.b (decide (a = b)), H) :=
 PFn.call (fn48 hF a b h5 h6) (args := [A, B]) (ks := []) (fs := []) (cs := []) (by simp [snapArgs, ha, hb])

end Go.Proofs.Try.Dn

