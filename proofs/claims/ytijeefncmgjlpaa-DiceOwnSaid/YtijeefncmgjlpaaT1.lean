/-
  Lists of int64 compared.
-/
import Derived.Test.YtijeefncmgjlpaaEa
import Derived.Test.YtijeefncmgjlpaaEl
import Derived.Test.YtijeefncmgjlpaaEc
import Derived.Test.YtijeefncmgjlpaaEj
set_option linter.unusedSimpArgs false
set_option linter.unusedVariables false

namespace Go.Proofs.Try.Dn
open Go.Dn

theorem fn131 {pg : Pg} (hF : Free pg) (a : Int) : PFn pg 131 [.i .i64 a] (.b false) := by
 refine .of1 (x := .ret) (e := [(2, .b false)]) (H' := []) (hF.S _ _) (d := d131) (by rw [hF.F]; rfl) rfl ?_ (.inl rfl) rfl (by simp [sn_i, sn_b, Yo, Yp, Yq, Yr, Ys, Yt, Yu, Yv, Yw, Yx, Yy, Yz, mapO, elems])
 simp (disch := omega) [d131, c131, zipE, Z0, Z1, Z2, Z3, Z4, Z5, Z6, Z7, Z8, Z9, Za, Zb, Zc, Zd, Ze, Zf, Zg, Zh, Zi, Zj, Zk, Zl, Zm, Zn, Zo, Zp, Zq, Zr, Zs, Zt, Zu, Zv, Zw, Zx, k_mv, Zy, Zz, ZA, ZB, ZC, ZD, ZE, ZF, ZG, ZH, ZI, ZJ, ZK, ZL, ZM, ZN, ZO, ZP, ZQ, ZR, ZS, ZT, ZU, ZV, ZW, ZX, ZY, ZZ, Y0, Y1, Y2, Y3, Y4, k_mn, k_mx, Y5, Y6, Y7, Y8, Y9, Ya, Yb, Yc, Yd, Ye, Yf, Yg, Yh, Dn.setLast, Dn.getLast, evalO, mapO, Dn.get, putE, Yi, Yj, Yk, Yl, TV.one, TV.isAgg, Dn.part, Ym, negb, at0, at1, at2, at3, at4, dT, dF, Yn, Option.bind_some, Option.map_some]


theorem fn108 {pg : Pg} (hF : Free pg) (a b : Int) : PFn pg 108 [.i .i64 a, .i .i64 b] (.i .i64 (cmpI a b)) := by
 have c1 := fun H => PFn.call (fn131 hF a) (args := [.i .i64 a]) (ks := []) (fs := []) (cs := []) (H := H) (by simp [snapArgs, sn_i])
 have c2 := fun H => PFn.call (fn131 hF b) (args := [.i .i64 b]) (ks := []) (fs := []) (cs := []) (H := H) (by simp [snapArgs, sn_i])
 refine .of1 (x := .ret) (e := [(4, .i .i64 (cmpI a b))]) (H' := []) (hF.S _ _) (d := d108) (by rw [hF.F]; rfl) rfl ?_ (.inl rfl) rfl (by simp [sn_i, sn_b, Yo, Yp, Yq, Yr, Ys, Yt, Yu, Yv, Yw, Yx, Yy, Yz, mapO, elems])
 unfold cmpI
 by_cases h1 : a < b
 ·rw [if_pos h1]
  simp (disch := omega) [d108, c108, zipE, Z0, Z1, Z2, Z3, Z4, Z5, Z6, Z7, Z8, Z9, Za, Zb, Zc, Zd, Ze, Zf, Zg, Zh, Zi, Zj, Zk, Zl, Zm, Zn, Zo, Zp, Zq, Zr, Zs, Zt, Zu, Zv, Zw, Zx, k_mv, Zy, Zz, ZA, ZB, ZC, ZD, ZE, ZF, ZG, ZH, ZI, ZJ, ZK, ZL, ZM, ZN, ZO, ZP, ZQ, ZR, ZS, ZT, ZU, ZV, ZW, ZX, ZY, ZZ, Y0, Y1, Y2, Y3, Y4, k_mn, k_mx, Y5, Y6, Y7, Y8, Y9, Ya, Yb, Yc, Yd, Ye, Yf, Yg, Yh, Dn.setLast, Dn.getLast, evalO, mapO, Dn.get, putE, Yi, Yj, Yk, Yl, TV.one, TV.isAgg, Dn.part, Ym, negb, at0, at1, at2, at3, at4, dT, dF, Yn, Option.bind_some, Option.map_some, c1, c2, h1]
 ·rw [if_neg h1]
  by_cases h2 : b < a
  ·rw [if_pos h2]
   simp (disch := omega) [d108, c108, zipE, Z0, Z1, Z2, Z3, Z4, Z5, Z6, Z7, Z8, Z9, Za, Zb, Zc, Zd, Ze, Zf, Zg, Zh, Zi, Zj, Zk, Zl, Zm, Zn, Zo, Zp, Zq, Zr, Zs, Zt, Zu, Zv, Zw, Zx, k_mv, Zy, Zz, ZA, ZB, ZC, ZD, ZE, ZF, ZG, ZH, ZI, ZJ, ZK, ZL, ZM, ZN, ZO, ZP, ZQ, ZR, ZS, ZT, ZU, ZV, ZW, ZX, ZY, ZZ, Y0, Y1, Y2, Y3, Y4, k_mn, k_mx, Y5, Y6, Y7, Y8, Y9, Ya, Yb, Yc, Yd, Ye, Yf, Yg, Yh, Dn.setLast, Dn.getLast, evalO, mapO, Dn.get, putE, Yi, Yj, Yk, Yl, TV.one, TV.isAgg, Dn.part, Ym, negb, at0, at1, at2, at3, at4, dT, dF, Yn, Option.bind_some, Option.map_some, c1, c2, h1, h2]
  ·rw [if_neg h2]
   simp (disch := omega) [d108, c108, zipE, Z0, Z1, Z2, Z3, Z4, Z5, Z6, Z7, Z8, Z9, Za, Zb, Zc, Zd, Ze, Zf, Zg, Zh, Zi, Zj, Zk, Zl, Zm, Zn, Zo, Zp, Zq, Zr, Zs, Zt, Zu, Zv, Zw, Zx, k_mv, Zy, Zz, ZA, ZB, ZC, ZD, ZE, ZF, ZG, ZH, ZI, ZJ, ZK, ZL, ZM, ZN, ZO, ZP, ZQ, ZR, ZS, ZT, ZU, ZV, ZW, ZX, ZY, ZZ, Y0, Y1, Y2, Y3, Y4, k_mn, k_mx, Y5, Y6, Y7, Y8, Y9, Ya, Yb, Yc, Yd, Ye, Yf, Yg, Yh, Dn.setLast, Dn.getLast, evalO, mapO, Dn.get, putE, Yi, Yj, Yk, Yl, TV.one, TV.isAgg, Dn.part, Ym, negb, at0, at1, at2, at3, at4, dT, dF, Yn, Option.bind_some, Option.map_some, c1, c2, h1, h2]

theorem l98_1_all {pg : Pg} (hF : Free pg) {A B : TV} {a b : List Int} (hA : SV A a) (hB : SV B b) (ha : a.length <= 1000000) (hb : b.length <= 1000000) {H : Heap} : ∀ (n i : Nat), i + n = a.length -> i <= b.length ->
  (∃ e, a.length <= b.length /\ cmpL (a.drop i) (b.drop i) = (if a.length < b.length then -1 else 0) /\ den pg l98_1 [(0, A), (1, B), (9, A), (10, .i .i64 (a.length : Int)), (11, .i .i64 (i : Int))] H = some ⟨.exit 0, (0, A) :: (1, B) :: e, H⟩) \/
  den pg l98_1 [(0, A), (1, B), (9, A), (10, .i .i64 (a.length : Int)), (11, .i .i64 (i : Int))] H = some ⟨.ret, [(4, .i .i64 (cmpL (a.drop i) (b.drop i)))], H⟩
 | 0, i, hi, hib => by
  obtain rfl : i = a.length := by omega
  refine .inl ⟨[(9, A), (10, .i .i64 (a.length : Int)), (11, .i .i64 (a.length : Int)), (12, .b false)], hib, ?_, ?_⟩
  ·rw [List.drop_length]
   by_cases h : a.length < b.length
   ·rw [if_pos h, List.drop_eq_getElem_cons h]; rfl
   ·rw [if_neg h, List.drop_eq_nil_of_le (by omega)]; rfl
  ·rw [l98_1, den_loop]
   simp (disch := omega) [b98_0, Z0, Z1, Z2, Z3, Z4, Z5, Z6, Z7, Z8, Z9, Za, Zb, Zc, Zd, Ze, Zf, Zg, Zh, Zi, Zj, Zk, Zl, Zm, Zn, Zo, Zp, Zq, Zr, Zs, Zt, Zu, Zv, Zw, Zx, k_mv, Zy, Zz, ZA, ZB, ZC, ZD, ZE, ZF, ZG, ZH, ZI, ZJ, ZK, ZL, ZM, ZN, ZO, ZP, ZQ, ZR, ZS, ZT, ZU, ZV, ZW, ZX, ZY, ZZ, Y0, Y1, Y2, Y3, Y4, k_mn, k_mx, Y5, Y6, Y7, Y8, Y9, Ya, Yb, Yc, Yd, Ye, Yf, Yg, Yh, Dn.setLast, Dn.getLast, evalO, mapO, Dn.get, putE, Yi, Yj, Yk, Yl, TV.one, TV.isAgg, Dn.part, Ym, negb, at0, at1, at2, at3, at4, dT, dF, Yn, Option.bind_some, Option.map_some]
 | n + 1, i, hi, hib => by
  obtain ⟨x, hx⟩ : ∃ x, a[i]? = some x := ⟨_, List.getElem?_eq_getElem (by omega)⟩
  have hda : a.drop i = x :: a.drop (i + 1) := by
   obtain ⟨h1, rfl⟩ := List.getElem?_eq_some_iff.1 hx
   exact List.drop_eq_getElem_cons h1
  obtain ⟨p, p1, p2⟩ := ixI (pg := pg) (R := den pg) (hA.view H) hx
  have ln := (hB.view H).lenK
  by_cases hbl : i < b.length
  ·obtain ⟨y, hy⟩ : ∃ y, b[i]? = some y := ⟨_, List.getElem?_eq_getElem hbl⟩
   have hdb : b.drop i = y :: b.drop (i + 1) := by
    obtain ⟨h1, rfl⟩ := List.getElem?_eq_some_iff.1 hy
    exact List.drop_eq_getElem_cons h1
   obtain ⟨w, w1, w2⟩ := ixI (pg := pg) (R := den pg) (hB.view H) hy
   have c := PFn.call (fn108 hF x y) (args := [.i .i64 x, .i .i64 y]) (ks := []) (fs := []) (cs := []) (H := H) (by simp [snapArgs, sn_i])
   have hcm : cmpL (a.drop i) (b.drop i) = if cmpI x y ≠ 0 then cmpI x y else cmpL (a.drop (i + 1)) (b.drop (i + 1)) := by rw [hda, hdb]; rfl
   rw [hcm]
   by_cases h0 : cmpI x y = 0
   ·rw [if_neg (by simpa using h0)]
    have e : den pg l98_1 [(0, A), (1, B), (9, A), (10, .i .i64 (a.length : Int)), (11, .i .i64 (i : Int))] H = den pg l98_1 [(0, A), (1, B), (9, A), (10, .i .i64 (a.length : Int)), (11, .i .i64 ((i + 1 : Nat) : Int))] H := by
     obtain ⟨N, hN⟩ : ∃ N, N = a.length := ⟨_, rfl⟩
     obtain ⟨M, hM⟩ : ∃ M, M = b.length := ⟨_, rfl⟩
     rw [<- hN] at hi ⊢
     rw [<- hM] at ln hbl
     have di : decide ((i : Int) < (N : Int)) = true := dT (by omega)
     rw [h0] at c
     rw [l98_1, den_loop]
     simp (disch := omega) [l98_1, b98_0, Z0, Z1, Z2, Z3, Z4, Z5, Z6, Z7, Z8, Z9, Za, Zb, Zc, Zd, Ze, Zf, Zg, Zh, Zi, Zj, Zk, Zl, Zm, Zn, Zo, Zp, Zq, Zr, Zs, Zt, Zu, Zv, Zw, Zx, k_mv, Zy, Zz, ZA, ZB, ZC, ZD, ZE, ZF, ZG, ZH, ZI, ZJ, ZK, ZL, ZM, ZN, ZO, ZP, ZQ, ZR, ZS, ZT, ZU, ZV, ZW, ZX, ZY, ZZ, Y0, Y1, Y2, Y3, Y4, k_mn, k_mx, Y5, Y6, Y7, Y8, Y9, Ya, Yb, Yc, Yd, Ye, Yf, Yg, Yh, Dn.setLast, Dn.getLast, evalO, mapO, Dn.get, putE, Yi, Yj, Yk, Yl, TV.one, TV.isAgg, Dn.part, Ym, negb, at0, at1, at2, at3, at4, dT, dF, Yn, Option.bind_some, Option.map_some, di, p1, p2, ln, w1, w2, c]
    rw [e]
    exact l98_1_all hF hA hB ha hb n (i + 1) (by omega) (by omega)
   ·rw [if_pos h0]
    refine .inr ?_
    obtain ⟨N, hN⟩ : ∃ N, N = a.length := ⟨_, rfl⟩
    obtain ⟨M, hM⟩ : ∃ M, M = b.length := ⟨_, rfl⟩
    rw [<- hN] at hi ⊢
    rw [<- hM] at ln hbl
    have di : decide ((i : Int) < (N : Int)) = true := dT (by omega)
    generalize cmpI x y = C at *
    rw [l98_1, den_loop]
    simp (disch := omega) [b98_0, Z0, Z1, Z2, Z3, Z4, Z5, Z6, Z7, Z8, Z9, Za, Zb, Zc, Zd, Ze, Zf, Zg, Zh, Zi, Zj, Zk, Zl, Zm, Zn, Zo, Zp, Zq, Zr, Zs, Zt, Zu, Zv, Zw, Zx, k_mv, Zy, Zz, ZA, ZB, ZC, ZD, ZE, ZF, ZG, ZH, ZI, ZJ, ZK, ZL, ZM, ZN, ZO, ZP, ZQ, ZR, ZS, ZT, ZU, ZV, ZW, ZX, ZY, ZZ, Y0, Y1, Y2, Y3, Y4, k_mn, k_mx, Y5, Y6, Y7, Y8, Y9, Ya, Yb, Yc, Yd, Ye, Yf, Yg, Yh, Dn.setLast, Dn.getLast, evalO, mapO, Dn.get, putE, Yi, Yj, Yk, Yl, TV.one, TV.isAgg, Dn.part, Ym, negb, at0, at1, at2, at3, at4, dT, dF, Yn, Option.bind_some, Option.map_some, di, p1, p2, ln, w1, w2, c, h0]
  ·refine .inr ?_
   have hdb : b.drop i = [] := List.drop_eq_nil_of_le (by omega)
   rw [hda, hdb]
   rw [show cmpL (x :: a.drop (i + 1)) [] = 1 from rfl]
   obtain ⟨N, hN⟩ : ∃ N, N = a.length := ⟨_, rfl⟩
   obtain ⟨M, hM⟩ : ∃ M, M = b.length := ⟨_, rfl⟩
   rw [<- hN] at hi ⊢
   rw [<- hM] at ln hbl
   have di : decide ((i : Int) < (N : Int)) = true := dT (by omega)
   rw [l98_1, den_loop]
   simp (disch := omega) [b98_0, Z0, Z1, Z2, Z3, Z4, Z5, Z6, Z7, Z8, Z9, Za, Zb, Zc, Zd, Ze, Zf, Zg, Zh, Zi, Zj, Zk, Zl, Zm, Zn, Zo, Zp, Zq, Zr, Zs, Zt, Zu, Zv, Zw, Zx, k_mv, Zy, Zz, ZA, ZB, ZC, ZD, ZE, ZF, ZG, ZH, ZI, ZJ, ZK, ZL, ZM, ZN, ZO, ZP, ZQ, ZR, ZS, ZT, ZU, ZV, ZW, ZX, ZY, ZZ, Y0, Y1, Y2, Y3, Y4, k_mn, k_mx, Y5, Y6, Y7, Y8, Y9, Ya, Yb, Yc, Yd, Ye, Yf, Yg, Yh, Dn.setLast, Dn.getLast, evalO, mapO, Dn.get, putE, Yi, Yj, Yk, Yl, TV.one, TV.isAgg, Dn.part, Ym, negb, at0, at1, at2, at3, at4, dT, dF, Yn, Option.bind_some, Option.map_some, di, p1, p2, ln]

theorem fn98 {pg : Pg} (hF : Free pg) {A B : TV} {a b : List Int} (hA : SV A a) (hB : SV B b) (ha : a.length <= 1000000) (hb : b.length <= 1000000) : PFn pg 98 [A, B] (.i .i64 (cmpL a b)) := by
 have la := (hA.view []).lenK
 have lb := (hB.view []).lenK
 have hd : pg.F 98 = some d98 := by rw [hF.F]; rfl
 refine .of1 (x := .ret) (e := [(4, .i .i64 (cmpL a b))]) (H' := []) (hF.S _ _) (d := d98) hd rfl ?_ (.inl rfl) rfl (by simp [sn_i, sn_b, Yo, Yp, Yq, Yr, Ys, Yt, Yu, Yv, Yw, Yx, Yy, Yz, mapO, elems])
 rcases l98_1_all (pg := pg) hF hA hB ha hb (H := []) a.length 0 (by omega) (by omega) with ⟨e, r1, r2, r3⟩ | r
 ·simp only [Int.natCast_zero, List.drop_zero] at r2 r3
  rw [r2]
  obtain ⟨N, hN⟩ : ∃ N, N = a.length := ⟨_, rfl⟩
  obtain ⟨M, hM⟩ : ∃ M, M = b.length := ⟨_, rfl⟩
  rw [<- hN] at la r3 ⊢
  rw [<- hM] at lb ⊢
  by_cases h : N < M
  ·rw [if_pos h]
   simp (disch := omega) [d98, c98, zipE, Z0, Z1, Z2, Z3, Z4, Z5, Z6, Z7, Z8, Z9, Za, Zb, Zc, Zd, Ze, Zf, Zg, Zh, Zi, Zj, Zk, Zl, Zm, Zn, Zo, Zp, Zq, Zr, Zs, Zt, Zu, Zv, Zw, Zx, k_mv, Zy, Zz, ZA, ZB, ZC, ZD, ZE, ZF, ZG, ZH, ZI, ZJ, ZK, ZL, ZM, ZN, ZO, ZP, ZQ, ZR, ZS, ZT, ZU, ZV, ZW, ZX, ZY, ZZ, Y0, Y1, Y2, Y3, Y4, k_mn, k_mx, Y5, Y6, Y7, Y8, Y9, Ya, Yb, Yc, Yd, Ye, Yf, Yg, Yh, Dn.setLast, Dn.getLast, evalO, mapO, Dn.get, putE, Yi, Yj, Yk, Yl, TV.one, TV.isAgg, Dn.part, Ym, negb, at0, at1, at2, at3, at4, dT, dF, Yn, Option.bind_some, Option.map_some, la, lb, go_denK (c := l98_1) rfl, r3]
  ·rw [if_neg h]
   simp (disch := omega) [d98, c98, zipE, Z0, Z1, Z2, Z3, Z4, Z5, Z6, Z7, Z8, Z9, Za, Zb, Zc, Zd, Ze, Zf, Zg, Zh, Zi, Zj, Zk, Zl, Zm, Zn, Zo, Zp, Zq, Zr, Zs, Zt, Zu, Zv, Zw, Zx, k_mv, Zy, Zz, ZA, ZB, ZC, ZD, ZE, ZF, ZG, ZH, ZI, ZJ, ZK, ZL, ZM, ZN, ZO, ZP, ZQ, ZR, ZS, ZT, ZU, ZV, ZW, ZX, ZY, ZZ, Y0, Y1, Y2, Y3, Y4, k_mn, k_mx, Y5, Y6, Y7, Y8, Y9, Ya, Yb, Yc, Yd, Ye, Yf, Yg, Yh, Dn.setLast, Dn.getLast, evalO, mapO, Dn.get, putE, Yi, Yj, Yk, Yl, TV.one, TV.isAgg, Dn.part, Ym, negb, at0, at1, at2, at3, at4, dT, dF, Yn, Option.bind_some, Option.map_some, la, lb, go_denK (c := l98_1) rfl, r3]
 ·simp only [Int.natCast_zero, List.drop_zero] at r
  obtain ⟨N, hN⟩ : ∃ N, N = a.length := ⟨_, rfl⟩
  rw [<- hN] at la r
  generalize cmpL a b = C at *
  simp (disch := omega) [d98, c98, zipE, Z0, Z1, Z2, Z3, Z4, Z5, Z6, Z7, Z8, Z9, Za, Zb, Zc, Zd, Ze, Zf, Zg, Zh, Zi, Zj, Zk, Zl, Zm, Zn, Zo, Zp, Zq, Zr, Zs, Zt, Zu, Zv, Zw, Zx, k_mv, Zy, Zz, ZA, ZB, ZC, ZD, ZE, ZF, ZG, ZH, ZI, ZJ, ZK, ZL, ZM, ZN, ZO, ZP, ZQ, ZR, ZS, ZT, ZU, ZV, ZW, ZX, ZY, ZZ, Y0, Y1, Y2, Y3, Y4, k_mn, k_mx, Y5, Y6, Y7, Y8, Y9, Ya, Yb, Yc, Yd, Ye, Yf, Yg, Yh, Dn.setLast, Dn.getLast, evalO, mapO, Dn.get, putE, Yi, Yj, Yk, Yl, TV.one, TV.isAgg, Dn.part, Ym, negb, at0, at1, at2, at3, at4, dT, dF, Yn, Option.bind_some, Option.map_some, la, lb, go_denK (c := l98_1) rfl, r]

end Go.Proofs.Try.Dn

/-
 The sums of dice: rows of a sum and its ways, sorted.
-/

set_option maxHeartbeats 1000000
namespace Go.Proofs.Try.Dn
open Go.Dn

def elQ : El (Int × Int) where
 sz := 2
 ag := true
 enc p := [.i .i64 p.1, .i .i64 p.2]
 pos := by decide
 len _ := rfl
 one _ := rfl
 sc := .inl rfl

theorem elQ_flat : elQ.Flat := by
 intro m H a f
 show snap m H (f + 2) (.agg [.i .i64 a.1, .i .i64 a.2]) = some (.agg [.i .i64 a.1, .i .i64 a.2])
 rw [snap]
 simp [mapO, snap]

def cmpQ (x y : Int × Int) : Int := cmpL [x.1, x.2] [y.1, y.2]

theorem ordL : Ordr cmpL where
 irr x := by rw [(cmpL_eq x x).2 rfl]; decide
 tr := cmpL_tr
 ntr x y z h1 h2 h3 := by
  have a := cmpL_rev x y
  have b := cmpL_rev y z
  by_cases h4 : cmpL x y = 0
  ·have := (cmpL_eq x y).1 h4; subst this; exact h2 h3
  ·by_cases h5 : cmpL y z = 0
   ·have := (cmpL_eq y z).1 h5; subst this; exact h1 h3
   ·have := cmpL_tr z y x (by omega) (by omega)
    have := cmpL_rev x z
    omega

theorem ordQ : Ordr cmpQ := ⟨fun x => ordL.irr _, fun x y z => ordL.tr _ _ _, fun x y z => ordL.ntr _ _ _⟩

theorem body97 {pg : Pg} (hF : Free pg) (a b c d : Int) (H : Heap) :
  ∃ H', bodyRun pg (den pg) 97 [.agg [.i .i64 a, .i .i64 b], .agg [.i .i64 c, .i .i64 d]] H = some (.i .i64 (cmpQ (a, b) (c, d)), H') := by
 have b1 := ZG (pg := pg) (R := den pg) [.i .i64 a, .i .i64 b] H rfl
 obtain ⟨H1, hH1⟩ : ∃ H1, H1 = H ++ [AObj.cells [.i .i64 a, .i .i64 b] true] := ⟨_, rfl⟩
 rw [<- hH1] at b1
 have b2 := ZG (pg := pg) (R := den pg) [.i .i64 c, .i .i64 d] H1 rfl
 obtain ⟨H2, hH2⟩ : ∃ H2, H2 = H1 ++ [AObj.cells [.i .i64 c, .i .i64 d] true] := ⟨_, rfl⟩
 rw [<- hH2] at b2
 have l1 : H1.length = H.length + 1 := by rw [hH1]; simp
 have g1 : H2[H.length]? = some (.cells [.i .i64 a, .i .i64 b] true) := by rw [hH2, List.getElem?_append_left (by omega), hH1]; exact getLast _ _
 have g2 : H2[H1.length]? = some (.cells [.i .i64 c, .i .i64 d] true) := by rw [hH2]; exact getLast _ _
 have s1 : slcARun false false false 2 1 false (.ref H.length 0) [] H2 = some (.sl H.length 0 1 false 2 (some 2)) := by simp [slcARun, bounds3, g1]
 have s2 : slcARun false false false 2 1 false (.ref H1.length 0) [] H2 = some (.sl H1.length 0 1 false 2 (some 2)) := by simp [slcARun, bounds3, g2]
 have n1 : snap .borrow H2 9 (.sl H.length 0 1 false 2 (some 2)) = some (elI.lt true [a, b]) := by
  rw [Yu _ (by decide), g1, Yw]; simp [sn_i, sn_b, Yo, Yp, Yq, Yr, Ys, Yt, Yu, Yv, Yw, Yx, Yy, Yz, mapO, elems]; rfl
 have n2 : snap .borrow H2 9 (.sl H1.length 0 1 false 2 (some 2)) = some (elI.lt true [c, d]) := by
  rw [Yu _ (by decide), g2, Yw]; simp [sn_i, sn_b, Yo, Yp, Yq, Yr, Ys, Yt, Yu, Yv, Yw, Yx, Yy, Yz, mapO, elems]; rfl
 have c98 := PFn.call (fn98 (pg := pg) hF (SV.lt true [a, b]) (SV.lt true [c, d]) (by simp) (by simp)) (args := [.sl H.length 0 1 false 2 (some 2), .sl H1.length 0 1 false 2 (some 2)]) (ks := []) (fs := []) (cs := []) (H := H2) (by simp [snapArgs, n1, n2])
 refine ⟨H2, body_of (x := .ret) (e := [(4, .i .i64 (cmpQ (a, b) (c, d)))]) (d := d97) (by rw [hF.F]; rfl) rfl ?_ (.inl rfl) rfl⟩
 unfold cmpQ
 simp only
 generalize cmpL [a, b] [c, d] = z at *
 clear hH1 hH2 l1 g1 g2 n1 n2
 simp (disch := omega) [d97, c97, zipE, Z0, Z1, Z2, Z3, Z4, Z5, Z6, Z7, Z8, Z9, Za, Zb, Zc, Zd, Ze, Zf, Zg, Zh, Zi, Zj, Zk, Zl, Zm, Zn, Zo, Zp, Zq, Zr, Zs, Zt, Zu, Zv, Zw, Zx, k_mv, Zy, Zz, ZA, ZB, ZC, ZD, ZE, ZF, ZG, ZH, ZI, ZJ, ZK, ZL, ZM, ZN, ZO, ZP, ZQ, ZR, ZS, ZT, ZU, ZV, ZW, ZX, ZY, ZZ, Y0, Y1, Y2, Y3, Y4, k_mn, k_mx, Y5, Y6, Y7, Y8, Y9, Ya, Yb, Yc, Yd, Ye, Yf, Yg, Yh, Dn.setLast, Dn.getLast, evalO, mapO, Dn.get, putE, Yi, Yj, Yk, Yl, TV.one, TV.isAgg, Dn.part, Ym, negb, at0, at1, at2, at3, at4, dT, dF, Yn, Option.bind_some, Option.map_some, b1, b2, s1, s2, c98]

theorem cmpQ_run {pg : Pg} (hF : Free pg) (H0 : Heap) (x y : Int × Int) : cmpRun pg (den pg) H0 97 [] (.agg (elQ.enc x)) (.agg (elQ.enc y)) = some (cmpQ x y) := by
 obtain ⟨a, b⟩ := x
 obtain ⟨c, d⟩ := y
 obtain ⟨H', r1⟩ := body97 hF a b c d []
 have sa : snapArgs H0 [] ([.agg (elQ.enc (a, b)), .agg (elQ.enc (c, d))] ++ []) = some [.agg [.i .i64 a, .i .i64 b], .agg [.i .i64 c, .i .i64 d]] := by
  have e : ∀ p : Int × Int, snap .borrow H0 9 (.agg (elQ.enc p)) = some (.agg [.i .i64 p.1, .i .i64 p.2]) := fun p => elQ_flat .borrow H0 p 7
  simp [snapArgs, e]
 unfold cmpRun
 rw [sa, Option.bind_some, r1, Option.bind_some]

def entQ (q : Int × TV) : Int × Int := (q.1, (q.2.num : Int))

def oQ (L : Nat) (l : List (Int × Int)) : TV := if l = [] then .nilsl else .sl (L + l.length - 1) 0 2 true l.length none
def hQ (K : Heap) (l : List (Int × Int)) : Heap := if l = [] then K else K ++ List.replicate (l.length - 1) .dead ++ [.cells (elQ.flat l) false]

theorem app_Q {K : Heap} (l : List (Int × Int)) (x : Int × Int) (hb : (l.length + 1) * 16 <= 140737488355328) : appRun 2 true 16 (oQ K.length l) (.bs false 2 [elQ.val x]) (hQ K l) = some (oQ K.length (l ++ [x]), hQ K (l ++ [x])) := by
 have hfl : flatOf 2 (.bs false 2 [elQ.val x]) (hQ K l) = some (elQ.enc x) := by
  have := (El.View.flatOf (E := elQ) (H := hQ K l) (t := .bs false 2 [elQ.val x]) (l := [x]) (.inr (.inl ⟨false, rfl⟩)))
  rw [El.flat_one] at this
  exact this
 unfold appRun
 rw [hfl]
 simp only [lenOf, List.length_singleton, Option.bind_some]
 by_cases h : l = []
 ·subst h
  simp only [oQ, hQ, if_true, List.nil_append, List.cons_ne_nil, if_false, lenOf, Option.bind_some, List.length_nil, List.length_singleton]
  rw [if_pos ⟨by omega, by rfl, rfl⟩, if_neg (by omega)]
  simp [El.flat]
 ·have hl : 0 < l.length := List.length_pos_iff.2 h
  have hne : l ++ [x] ≠ [] := by simp
  simp only [oQ, hQ, if_neg h, if_neg hne, lenOf, Option.bind_some]
  rw [if_pos ⟨hb, by rfl, rfl⟩, if_neg (by omega), if_pos trivial]
  have hidx : (K ++ List.replicate (l.length - 1) AObj.dead ++ [AObj.cells (elQ.flat l) false])[K.length + l.length - 1]? = some (.cells (elQ.flat l) false) := by
   have e : K.length + l.length - 1 = (K ++ List.replicate (l.length - 1) AObj.dead).length := by simp; omega
   rw [e]; exact getLast _ _
  rw [hidx]
  have hfn := elQ.flat_len l
  have es : elQ.sz = 2 := rfl
  rw [es] at hfn
  simp only
  rw [if_pos (by omega), List.drop_zero, <- hfn, List.take_length]
  congr 1
  refine Prod.ext_iff.2 ⟨?_, ?_⟩
  ·simp; omega
  ·have e : K.length + l.length - 1 = (K ++ List.replicate (l.length - 1) AObj.dead).length := by simp; omega
   rw [e, Dn.setLast]
   dsimp only
   rw [List.length_append, List.length_singleton, show l.length + 1 - 1 = (l.length - 1) + 1 by omega, List.replicate_succ', El.flat_append, El.flat_one]
   simp

abbrev ops70 : List DOper := [oM 11 11, oO 12 (.ext 0) [.t 11], oO 13 (.ext 1) [.t 11], oM 4 12, oM 5 13]

theorem mf70 {pg : Pg} {it : Nat} {K : Heap} : ∀ (p : List (Int × TV)), (∀ q ∈ p, ∃ n : Nat, q.2 = .i .i64 (n : Int)) -> ∀ l : List (Int × Int), l.length + p.length <= 1000000 ->
  mf pg (den pg) 8 it 1 11 ops70 [3, 4, 5, 8] b70_0 [3, 8] p [(3, oQ K.length l), (8, .ref it 0)] (hQ K l) = some ([(3, oQ K.length (l ++ p.map entQ)), (8, .ref it 0)], hQ K (l ++ p.map entQ))
 | [], _, l, _ => by rw [List.map_nil, List.append_nil]; exact mf_nil _ _
 | (s, w) :: p, hp, l, hl => by
  obtain ⟨n, hn⟩ := hp (s, w) (List.mem_cons_self ..)
  have hn : w = .i .i64 (n : Int) := hn
  subst hn
  simp only [List.length_cons] at hl
  have ih := mf70 (pg := pg) (it := it) (K := K) p (fun q hq => hp q (List.mem_cons_of_mem _ hq)) (l ++ [(s, (n : Int))]) (by simp; omega)
  have ha := app_Q (K := K) l (s, (n : Int)) (by omega)
  have e : l ++ ((s, TV.i .i64 (n : Int)) :: p).map entQ = (l ++ [(s, (n : Int))]) ++ p.map entQ := by
   rw [List.map_cons, List.append_assoc]; simp [entQ, TV.num]
  rw [e, <- ih]
  refine mf_cons (e1 := [(3, oQ K.length (l ++ [(s, (n : Int))])), (8, .ref it 0)]) ?_ rfl
  have bl : dkc pg (den pg) (.build [.i .i64 0, .i .i64 0] [(0, 1), (1, 1)]) [.i .i64 s, .i .i64 (n : Int)] (hQ K l) = some (.agg [.i .i64 s, .i .i64 (n : Int)], hQ K l) := by
   show dk (.build [.i .i64 0, .i .i64 0] [(0, 1), (1, 1)]) [.i .i64 s, .i .i64 (n : Int)] (hQ K l) = _
   simp [dk, fillP, TV.cells, TV.one, put2]
  have bs : dkc pg (den pg) (.bsl true [.i .i64 0, .i .i64 0] true 1 [0]) [.agg [.i .i64 s, .i .i64 (n : Int)]] (hQ K l) = some (.bs false 2 [elQ.val (s, (n : Int))], hQ K l) := by
   show dk (.bsl true [.i .i64 0, .i .i64 0] true 1 [0]) [.agg [.i .i64 s, .i .i64 (n : Int)]] (hQ K l) = _
   simp [dk, fillP, repl, TV.cells, TV.one, put2, elems, chunk]
   rfl
  generalize hQ K (l ++ [(s, (n : Int))]) = K2 at *
  generalize oQ K.length (l ++ [(s, (n : Int))]) = O2 at *
  generalize hQ K l = K1 at *
  generalize oQ K.length l = O1 at *
  generalize elQ.val (s, (n : Int)) = V at *
  generalize (n : Int) = N at *
  clear ih e hl
  simp (disch := omega) [b70_0, Z0, Z1, Z2, Z3, Z4, Z5, Z6, Z7, Z8, Z9, Za, Zb, Zc, Zd, Ze, Zf, Zg, Zh, Zi, Zj, Zk, Zl, Zm, Zn, Zo, Zp, Zq, Zr, Zs, Zt, Zu, Zv, Zw, Zx, k_mv, Zy, Zz, ZA, ZB, ZC, ZD, ZE, ZF, ZG, ZH, ZI, ZJ, ZK, ZL, ZM, ZN, ZO, ZP, ZQ, ZR, ZS, ZT, ZU, ZV, ZW, ZX, ZY, ZZ, Y0, Y1, Y2, Y3, Y4, k_mn, k_mx, Y5, Y6, Y7, Y8, Y9, Ya, Yb, Yc, Yd, Ye, Yf, Yg, Yh, Dn.setLast, Dn.getLast, evalO, mapO, Dn.get, putE, Yi, Yj, Yk, Yl, TV.one, TV.isAgg, Dn.part, Ym, negb, at0, at1, at2, at3, at4, dT, dF, Yn, Option.bind_some, Option.map_some, bl, bs, ha]

end Go.Proofs.Try.Dn

