/-
  The ring, or the rank list, of a table.
-/
import Derived.Test.YtijeefncmgjlpaaUC
set_option linter.unusedSimpArgs false
set_option linter.unusedVariables false

set_option maxHeartbeats 4000000
set_option maxRecDepth 100000
namespace Go.Proofs.Try.Dn
open Go.Dn

def r66_0 : DC :=
 (.reg [oO 1 (.box false) [.t 0],
  (oO 2 (.alloc [.nilsl] false) []),
  (oO 3 (.alloc [.nilsl] false) [])] [1, 2, 3])

def r66_1 : DC :=
 (.reg [oO 8 (.ld 1 false) [.t 1],
  (oO 9 (.len 0) [.t 8]),
  (oO 10 (.mksl [(.i .i64 0)] false 8) [.t 9, .t 9]),
  (oO 4 (.alloc [.nilsl] false) []),
  ⟨none, (.st 1), [.t 4, .t 10], none⟩] [1, 2, 3, 4])

def r66_2 : DC :=
 (.reg [oO 5 (.alloc [.nilsl] false) []] [1, 2, 3, 4, 5])

def r66_3 : DC :=
 (.reg [oO 6 (.alloc [.nilfn] false) []] [1, 2, 3, 4, 5, 6])

def r66_4 : DC :=
 (.reg [oO 11 (.mkfn 90 0) [.t 4, .t 5, .t 2, .t 1, .t 6, .t 3],
  ⟨none, (.st 1), [.t 6, .t 11], none⟩] [1, 2, 3, 6])

def r66_5 : DC :=
 (.seq (.reg [oO 12 (.ld 1 false) [.t 1],
  (oO 13 (.len 0) [.t 12]),
  (oO 14 .mv [.c (.i .i64 0)])] [2, 3, 6, 13, 14])
 (.block 0
 l66_1))

def r66_6 : DC :=
 (.reg [oO 23 (.ld 1 false) [.t 3],
  ⟨(some 24), (.call .sh), [.c (.fn 92 [] []), .t 23], none⟩] [2, 3])

def r66_7 : DC :=
 (.regd [oO 25 (.ld 1 false) [.t 3],
  ⟨none, (.st 1), [.t 2, .c .nilsl], none⟩,
  ⟨none, (.st 1), [.t 3, .t 25], none⟩] [2, 3] [(1, 0)])

def r66_8 : DC :=
 .ret

theorem c66_parts : c66 = (.seq r66_0 (.seq r66_1 (.seq r66_2 (.seq r66_3 (.seq r66_4 (.seq r66_5 (.seq r66_6 (.seq r66_7 r66_8)))))))) := rfl

theorem l66_1_all {pg : Pg} {q : Q90} {n : Nat} {E : Nat -> Nat -> Bool} {TBL : TV} (hn : n <= 900) (hsp : ∀ k, Spec90 pg q n E TBL k) : ∀ (r i : Nat) (col : Nat -> Nat) (ord : List Nat) (tP tO : TV) (H : Heap), i + r = n -> HS q n TBL col [] ord tP tO H -> Dfs E n col [] ord -> (∀ x, x < i -> col x = 2) -> H[q.rR]? = some (.cells [.nilsl] false) ->
  (∃ r' H', den pg l66_1 [(2, .ref q.rR 0), (3, .ref q.rO 0), (6, .ref q.rF 0), (13, .i .i64 (n : Int)), (14, .i .i64 (i : Int))] H = some ⟨.ret, [(2, .ref q.rR 0), (3, .ref q.rO 0)], H'⟩ /\ H'[q.rR]? = some (.cells [elI.lt false (ci r')] false) /\ RingN E n r' /\ H'[q.rO]? = some (.cells [.nilsl] false)) \/
  (∃ col' ord' tP' tO' H' e, den pg l66_1 [(2, .ref q.rR 0), (3, .ref q.rO 0), (6, .ref q.rF 0), (13, .i .i64 (n : Int)), (14, .i .i64 (i : Int))] H = some ⟨.exit 0, (2, .ref q.rR 0) :: (3, .ref q.rO 0) :: e, H'⟩ /\ HS q n TBL col' [] ord' tP' tO' H' /\ Dfs E n col' [] ord' /\ (∀ x, x < n -> col' x = 2) /\ H'[q.rR]? = some (.cells [.nilsl] false))
 | 0, i, col, ord, tP, tO, H, hi, h, hd, ha, hR => by
  obtain rfl : i = n := by omega
  refine .inr ⟨col, ord, tP, tO, H, [(6, .ref q.rF 0), (13, .i .i64 (i : Int)), (14, .i .i64 (i : Int)), (15, .b false)], ?_, h, hd, ha, hR⟩
  clear h hd ha hR hsp
  generalize (i : Int) = I at *
  rw [l66_1, den_loop]
  simp (disch := omega) [b66_0, Z0, Z1, Z2, Z3, Z4, Z5, Z6, Z7, Z8, Z9, Za, Zb, Zc, Zd, Ze, Zf, Zg, Zh, Zi, Zj, Zk, Zl, Zm, Zn, Zo, Zp, Zq, Zr, Zs, Zt, Zu, Zv, Zw, Zx, k_mv, Zy, Zz, ZA, ZB, ZC, ZD, ZE, ZF, ZG, ZH, ZI, ZJ, ZK, ZL, ZM, ZN, ZO, ZP, ZQ, ZR, ZS, ZT, ZU, ZV, ZW, ZX, ZY, ZZ, Y0, Y1, Y2, Y3, Y4, k_mn, k_mx, Y5, Y6, Y7, Y8, Y9, Ya, Yb, Yc, Yd, Ye, Yf, Yg, Yh, Dn.setLast, Dn.getLast, evalO, mapO, Dn.get, putE, Yi, Yj, Yk, Yl, TV.one, TV.isAgg, Dn.part, Ym, negb, at0, at1, at2, at3, at4, dT, dF, Yn, Option.bind_some, Option.map_some]
 | r + 1, i, col, ord, tP, tO, H, hi, h, hd, ha, hR => by
  have lf := ldC1 (pg := pg) h.hF rfl
  have dd : decide ((i : Int) < (n : Int)) = true := dT (by omega)
  have w2 : wrapR .i64 ((i : Int) + 1) = .i .i64 ((i + 1 : Nat) : Int) := by rw [<- Int.natCast_succ]; exact Yn (by omega)
  rcases hsp (whites n col) i col [] ord tP tO H (by omega) h hd (fun x hx => by simp at hx) (Nat.le_refl _) with ⟨r', H', g1, g2, g3, t, g4⟩ | ⟨col', ord', tP', tO', H', g1, g2, g3, g4, g5, g6, g7⟩
  ·left
   have cl : callRun pg (den pg) .sh [.fn 90 [] q.caps, .i .i64 (i : Int)] H = some (.b false, H') := g1
   have l1 := ldC1 (pg := pg) g2 (by cases ci r' <;> rfl)
   have hne : q.rR ≠ q.rO := by
    have nd := h.nd
    simp only [Q90.ids, List.nodup_cons, List.mem_cons, List.mem_nil_iff, or_false, not_or, not_false_eq_true, List.nodup_nil, and_true] at nd
    omega
   have hlR := (List.getElem?_eq_some_iff.1 g2).1
   have hlO := (List.getElem?_eq_some_iff.1 g4).1
   have s1 := stC1 (pg := pg) g2 (El.lt_one elI false (ci r')) (by cases ci r' <;> rfl)
   have e1 : H'.set q.rR (.cells [elI.lt false (ci r')] false) = H' := set_same g2
   rw [e1] at s1
   have s2 := stC1 (pg := pg) (v := .nilsl) g4 rfl rfl
   refine ⟨r', H'.set q.rO (.cells [.nilsl] false), ?_, by rw [List.getElem?_set_ne (Ne.symm hne)]; exact g2, g3, by rw [List.getElem?_set_self hlO]⟩
   clear h hd ha hR hsp g1 g2 g3 g4 e1
   generalize (H'.set q.rO (.cells [.nilsl] false)) = H2 at *
   generalize elI.lt false (ci r') = RV at *
   generalize TV.fn 90 [] q.caps = FN at *
   generalize (i : Int) = I at *
   generalize (n : Int) = N at *
   rw [l66_1, den_loop]
   simp (disch := omega) [l66_1, b66_0, Z0, Z1, Z2, Z3, Z4, Z5, Z6, Z7, Z8, Z9, Za, Zb, Zc, Zd, Ze, Zf, Zg, Zh, Zi, Zj, Zk, Zl, Zm, Zn, Zo, Zp, Zq, Zr, Zs, Zt, Zu, Zv, Zw, Zx, k_mv, Zy, Zz, ZA, ZB, ZC, ZD, ZE, ZF, ZG, ZH, ZI, ZJ, ZK, ZL, ZM, ZN, ZO, ZP, ZQ, ZR, ZS, ZT, ZU, ZV, ZW, ZX, ZY, ZZ, Y0, Y1, Y2, Y3, Y4, k_mn, k_mx, Y5, Y6, Y7, Y8, Y9, Ya, Yb, Yc, Yd, Ye, Yf, Yg, Yh, Dn.setLast, Dn.getLast, evalO, mapO, Dn.get, putE, Yi, Yj, Yk, Yl, TV.one, TV.isAgg, Dn.part, Ym, negb, at0, at1, at2, at3, at4, dT, dF, Yn, Option.bind_some, Option.map_some, dd, lf, cl, l1, s1, s2]
  ·have cl : callRun pg (den pg) .sh [.fn 90 [] q.caps, .i .i64 (i : Int)] H = some (.b true, H') := g1
   have st : den pg l66_1 [(2, .ref q.rR 0), (3, .ref q.rO 0), (6, .ref q.rF 0), (13, .i .i64 (n : Int)), (14, .i .i64 (i : Int))] H = den pg l66_1 [(2, .ref q.rR 0), (3, .ref q.rO 0), (6, .ref q.rF 0), (13, .i .i64 (n : Int)), (14, .i .i64 ((i + 1 : Nat) : Int))] H' := by
    clear h hd ha hR hsp g1 g2 g3 g4 g5 g6 g7
    generalize TV.fn 90 [] q.caps = FN at *
    generalize ((i + 1 : Nat) : Int) = I2 at *
    generalize (i : Int) = I at *
    generalize (n : Int) = N at *
    conv => lhs; rw [l66_1, den_loop]
    simp (disch := omega) [l66_1, b66_0, Z0, Z1, Z2, Z3, Z4, Z5, Z6, Z7, Z8, Z9, Za, Zb, Zc, Zd, Ze, Zf, Zg, Zh, Zi, Zj, Zk, Zl, Zm, Zn, Zo, Zp, Zq, Zr, Zs, Zt, Zu, Zv, Zw, Zx, k_mv, Zy, Zz, ZA, ZB, ZC, ZD, ZE, ZF, ZG, ZH, ZI, ZJ, ZK, ZL, ZM, ZN, ZO, ZP, ZQ, ZR, ZS, ZT, ZU, ZV, ZW, ZX, ZY, ZZ, Y0, Y1, Y2, Y3, Y4, k_mn, k_mx, Y5, Y6, Y7, Y8, Y9, Ya, Yb, Yc, Yd, Ye, Yf, Yg, Yh, Dn.setLast, Dn.getLast, evalO, mapO, Dn.get, putE, Yi, Yj, Yk, Yl, TV.one, TV.isAgg, Dn.part, Ym, negb, at0, at1, at2, at3, at4, dT, dF, Yn, Option.bind_some, Option.map_some, dd, lf, cl, w2]
   rw [st]
   exact l66_1_all hn hsp r (i + 1) col' ord' tP' tO' H' (by omega) g2 g3 (fun x hx => by
    by_cases hxi : x = i
    ·rw [hxi]; exact g4
    ·exact g5 x (ha x (by omega))) (by rw [g7]; exact hR)

end Go.Proofs.Try.Dn

