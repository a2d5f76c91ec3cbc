/-
  The search for a ring, walked: the loop over those that a node beats.
-/
import Derived.Test.YtijeefncmgjlpaaUA
import Derived.Test.YtijeefncmgjlpaaR6
set_option linter.unusedSimpArgs false
set_option linter.unusedVariables false

set_option maxHeartbeats 4000000
set_option maxRecDepth 100000
namespace Go.Proofs.Try.Dn
open Go.Dn

theorem l90_1_all {pg : Pg} {q : Q90} {n i : Nat} {E : Nat -> Nat -> Bool} {TBL : TV} {k : Nat} (hn : n <= 1000) (hrec : Spec90 pg q n E TBL k) {b : Bool} {row : List Bool} (hrow : ∀ j, j < n -> row[j]? = some (E i j)) {path : List Nat} (hlast : path.getLast? = some i) :
  ∀ (r j : Nat) (col : Nat -> Nat) (ord : List Nat) (tP tO : TV) (H : Heap), j + r = n -> HS q n TBL col path ord tP tO H -> Dfs E n col path ord -> (∀ z, z < j -> E i z = true -> col z = 2) -> whites n col <= k ->
  (∃ r' H', den pg l90_1 [(0, .i .i64 (i : Int)), (1, .ref q.rS 0), (2, .ref q.rP 0), (5, .ref q.rF 0), (6, .ref q.rO 0), (37, elB.lt b row), (38, .i .i64 (n : Int)), (39, .i .i64 (j : Int))] H = some ⟨.ret, [(8, .b false)], H'⟩ /\ H'[q.rR]? = some (.cells [elI.lt false (ci r')] false) /\ RingN E n r' /\ ∃ t, H'[q.rO]? = some (.cells [t] false)) \/
  (∃ col' ord' tP' tO' H' e, den pg l90_1 [(0, .i .i64 (i : Int)), (1, .ref q.rS 0), (2, .ref q.rP 0), (5, .ref q.rF 0), (6, .ref q.rO 0), (37, elB.lt b row), (38, .i .i64 (n : Int)), (39, .i .i64 (j : Int))] H = some ⟨.exit 0, (0, .i .i64 (i : Int)) :: (1, .ref q.rS 0) :: (2, .ref q.rP 0) :: (5, .ref q.rF 0) :: (6, .ref q.rO 0) :: e, H'⟩ /\
   HS q n TBL col' path ord' tP' tO' H' /\ Dfs E n col' path ord' /\ (∀ z, z < n -> E i z = true -> col' z = 2) /\ (∀ x, col x = 2 -> col' x = 2) /\ whites n col' <= whites n col /\ H'[q.rR]? = H[q.rR]?)
 | 0, j, col, ord, tP, tO, H, hj, h, hd, ha, hw => by
  obtain rfl : j = n := by omega
  refine .inr ⟨col, ord, tP, tO, H, [(37, elB.lt b row), (38, .i .i64 (j : Int)), (39, .i .i64 (j : Int)), (40, .b false)], ?_, h, hd, ha, fun x hx => hx, Nat.le_refl _, rfl⟩
  clear h hd ha hw hrec hrow
  generalize elB.lt b row = RW at *
  generalize (j : Int) = J at *
  generalize (i : Int) = I at *
  rw [l90_1, den_loop]
  simp (disch := omega) [b90_0, Z0, Z1, Z2, Z3, Z4, Z5, Z6, Z7, Z8, Z9, Za, Zb, Zc, Zd, Ze, Zf, Zg, Zh, Zi, Zj, Zk, Zl, Zm, Zn, Zo, Zp, Zq, Zr, Zs, Zt, Zu, Zv, Zw, Zx, k_mv, Zy, Zz, ZA, ZB, ZC, ZD, ZE, ZF, ZG, ZH, ZI, ZJ, ZK, ZL, ZM, ZN, ZO, ZP, ZQ, ZR, ZS, ZT, ZU, ZV, ZW, ZX, ZY, ZZ, Y0, Y1, Y2, Y3, Y4, k_mn, k_mx, Y5, Y6, Y7, Y8, Y9, Ya, Yb, Yc, Yd, Ye, Yf, Yg, Yh, Dn.setLast, Dn.getLast, evalO, mapO, Dn.get, putE, Yi, Yj, Yk, Yl, TV.one, TV.isAgg, Dn.part, Ym, negb, at0, at1, at2, at3, at4, dT, dF, Yn, Option.bind_some, Option.map_some]
 | r + 1, j, col, ord, tP, tO, H, hj, h, hd, ha, hw => by
  obtain ⟨p, p1, p2⟩ := ixBo (pg := pg) (H := H) (b := b) (hrow j (by omega))
  have dd : decide ((j : Int) < (n : Int)) = true := dT (by omega)
  have w2 : wrapR .i64 ((j : Int) + 1) = .i .i64 ((j + 1 : Nat) : Int) := by rw [<- Int.natCast_succ]; exact Yn (by omega)
  by_cases he : E i j = true
  ·rw [he] at p2
   have lf := ldC1 (pg := pg) h.hF rfl
   rcases hrec j col path ord tP tO H (by omega) h hd (fun x hx => by rw [hlast] at hx; rw [<- Option.some.inj hx]; exact he) hw with ⟨r', H', g1, g2, g3, g4⟩ | ⟨col', ord', tP', tO', H', g1, g2, g3, g4, g5, g6, g7⟩
   ·have cl : callRun pg (den pg) .sh [.fn 90 [] q.caps, .i .i64 (j : Int)] H = some (.b false, H') := g1
    refine .inl ⟨r', H', ?_, g2, g3, g4⟩
    clear h hd ha hw hrec hrow g1 g2 g3 g4
    generalize TV.fn 90 [] q.caps = FN at *
    generalize elB.lt b row = RW at *
    generalize (j : Int) = J at *
    generalize (i : Int) = I at *
    generalize (n : Int) = N at *
    rw [l90_1, den_loop]
    simp (disch := omega) [l90_1, b90_0, Z0, Z1, Z2, Z3, Z4, Z5, Z6, Z7, Z8, Z9, Za, Zb, Zc, Zd, Ze, Zf, Zg, Zh, Zi, Zj, Zk, Zl, Zm, Zn, Zo, Zp, Zq, Zr, Zs, Zt, Zu, Zv, Zw, Zx, k_mv, Zy, Zz, ZA, ZB, ZC, ZD, ZE, ZF, ZG, ZH, ZI, ZJ, ZK, ZL, ZM, ZN, ZO, ZP, ZQ, ZR, ZS, ZT, ZU, ZV, ZW, ZX, ZY, ZZ, Y0, Y1, Y2, Y3, Y4, k_mn, k_mx, Y5, Y6, Y7, Y8, Y9, Ya, Yb, Yc, Yd, Ye, Yf, Yg, Yh, Dn.setLast, Dn.getLast, evalO, mapO, Dn.get, putE, Yi, Yj, Yk, Yl, TV.one, TV.isAgg, Dn.part, Ym, negb, at0, at1, at2, at3, at4, dT, dF, Yn, Option.bind_some, Option.map_some, dd, p1, p2, lf, cl]
   ·have cl : callRun pg (den pg) .sh [.fn 90 [] q.caps, .i .i64 (j : Int)] H = some (.b true, H') := g1
    have st : den pg l90_1 [(0, .i .i64 (i : Int)), (1, .ref q.rS 0), (2, .ref q.rP 0), (5, .ref q.rF 0), (6, .ref q.rO 0), (37, elB.lt b row), (38, .i .i64 (n : Int)), (39, .i .i64 (j : Int))] H = den pg l90_1 [(0, .i .i64 (i : Int)), (1, .ref q.rS 0), (2, .ref q.rP 0), (5, .ref q.rF 0), (6, .ref q.rO 0), (37, elB.lt b row), (38, .i .i64 (n : Int)), (39, .i .i64 ((j + 1 : Nat) : Int))] H' := by
     clear h hd ha hw hrec hrow g1 g2 g3 g4 g5 g6 g7
     generalize TV.fn 90 [] q.caps = FN at *
     generalize elB.lt b row = RW at *
     generalize ((j + 1 : Nat) : Int) = J2 at *
     generalize (j : Int) = J at *
     generalize (i : Int) = I at *
     generalize (n : Int) = N at *
     conv => lhs; rw [l90_1, den_loop]
     simp (disch := omega) [l90_1, b90_0, Z0, Z1, Z2, Z3, Z4, Z5, Z6, Z7, Z8, Z9, Za, Zb, Zc, Zd, Ze, Zf, Zg, Zh, Zi, Zj, Zk, Zl, Zm, Zn, Zo, Zp, Zq, Zr, Zs, Zt, Zu, Zv, Zw, Zx, k_mv, Zy, Zz, ZA, ZB, ZC, ZD, ZE, ZF, ZG, ZH, ZI, ZJ, ZK, ZL, ZM, ZN, ZO, ZP, ZQ, ZR, ZS, ZT, ZU, ZV, ZW, ZX, ZY, ZZ, Y0, Y1, Y2, Y3, Y4, k_mn, k_mx, Y5, Y6, Y7, Y8, Y9, Ya, Yb, Yc, Yd, Ye, Yf, Yg, Yh, Dn.setLast, Dn.getLast, evalO, mapO, Dn.get, putE, Yi, Yj, Yk, Yl, TV.one, TV.isAgg, Dn.part, Ym, negb, at0, at1, at2, at3, at4, dT, dF, Yn, Option.bind_some, Option.map_some, dd, p1, p2, lf, cl, w2]
    rw [st]
    rcases l90_1_all hn hrec (b := b) hrow hlast r (j + 1) col' ord' tP' tO' H' (by omega) g2 g3 (fun z hz hez => by
     by_cases hzj : z = j
     ·rw [hzj]; exact g4
     ·exact g5 z (ha z (by omega) hez)) (by omega) with h1 | ⟨c2, o2, u1, u2, H2, e, k1, k2, k3, k4, k5, k6, k7⟩
    ·exact .inl h1
    ·exact .inr ⟨c2, o2, u1, u2, H2, e, k1, k2, k3, k4, fun x hx => k5 x (g5 x hx), by omega, by rw [k7, g7]⟩
  ·have he' : E i j = false := by simpa using he
   rw [he'] at p2
   have st : den pg l90_1 [(0, .i .i64 (i : Int)), (1, .ref q.rS 0), (2, .ref q.rP 0), (5, .ref q.rF 0), (6, .ref q.rO 0), (37, elB.lt b row), (38, .i .i64 (n : Int)), (39, .i .i64 (j : Int))] H = den pg l90_1 [(0, .i .i64 (i : Int)), (1, .ref q.rS 0), (2, .ref q.rP 0), (5, .ref q.rF 0), (6, .ref q.rO 0), (37, elB.lt b row), (38, .i .i64 (n : Int)), (39, .i .i64 ((j + 1 : Nat) : Int))] H := by
    clear h hd ha hw hrec hrow
    generalize elB.lt b row = RW at *
    generalize ((j + 1 : Nat) : Int) = J2 at *
    generalize (j : Int) = J at *
    generalize (i : Int) = I at *
    generalize (n : Int) = N at *
    conv => lhs; rw [l90_1, den_loop]
    simp (disch := omega) [l90_1, b90_0, Z0, Z1, Z2, Z3, Z4, Z5, Z6, Z7, Z8, Z9, Za, Zb, Zc, Zd, Ze, Zf, Zg, Zh, Zi, Zj, Zk, Zl, Zm, Zn, Zo, Zp, Zq, Zr, Zs, Zt, Zu, Zv, Zw, Zx, k_mv, Zy, Zz, ZA, ZB, ZC, ZD, ZE, ZF, ZG, ZH, ZI, ZJ, ZK, ZL, ZM, ZN, ZO, ZP, ZQ, ZR, ZS, ZT, ZU, ZV, ZW, ZX, ZY, ZZ, Y0, Y1, Y2, Y3, Y4, k_mn, k_mx, Y5, Y6, Y7, Y8, Y9, Ya, Yb, Yc, Yd, Ye, Yf, Yg, Yh, Dn.setLast, Dn.getLast, evalO, mapO, Dn.get, putE, Yi, Yj, Yk, Yl, TV.one, TV.isAgg, Dn.part, Ym, negb, at0, at1, at2, at3, at4, dT, dF, Yn, Option.bind_some, Option.map_some, dd, p1, p2, w2]
   rw [st]
   exact l90_1_all hn hrec (b := b) hrow hlast r (j + 1) col ord tP tO H (by omega) h hd (fun z hz hez => by
    by_cases hzj : z = j
    ·rw [hzj, he'] at hez; cases hez
    ·exact ha z (by omega) hez) hw

end Go.Proofs.Try.Dn

