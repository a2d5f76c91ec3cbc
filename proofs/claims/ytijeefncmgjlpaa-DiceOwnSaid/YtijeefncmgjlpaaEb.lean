/-
  Two dice compared, in the program and in the reference.
-/
import Derived.Test.YtijeefncmgjlpaaEa
set_option linter.unusedSimpArgs false
set_option linter.unusedVariables false

namespace Go.Proofs.Try.Dn
open Go.Dn

def cGt (x : Int) (b : List Int) : Nat := b.countP fun y => decide (y < x)
def cLt (x : Int) (b : List Int) : Nat := b.countP fun y => decide (x < y)
def cEq (x : Int) (b : List Int) : Nat := b.countP fun y => decide (x = y)
def more (a b : List Int) : Nat := (a.map fun x => cGt x b).sum
def less (a b : List Int) : Nat := (a.map fun x => cLt x b).sum
def same (a b : List Int) : Nat := (a.map fun x => cEq x b).sum

theorem cnt_cons (x y : Int) (b : List Int) : cGt x (y :: b) = cGt x b + (if y < x then 1 else 0) /\ cLt x (y :: b) = cLt x b + (if x < y then 1 else 0) /\ cEq x (y :: b) = cEq x b + (if x = y then 1 else 0) := by
 unfold cGt cLt cEq
 simp only [List.countP_cons, decide_eq_true_eq]
 exact ⟨trivial, trivial, trivial⟩

theorem cnt_all (x : Int) : ∀ b : List Int, cGt x b + cLt x b + cEq x b = b.length
 | [] => rfl
 | y :: b => by
  obtain ⟨h1, h2, h3⟩ := cnt_cons x y b
  have := cnt_all x b
  rw [h1, h2, h3, List.length_cons]
  rcases Int.lt_trichotomy x y with h | h | h
  ·rw [if_neg (by omega), if_pos h, if_neg (by omega)]; omega
  ·rw [if_neg (by omega), if_neg (by omega), if_pos h]; omega
  ·rw [if_pos h, if_neg (by omega), if_neg (by omega)]; omega

/-! the reference -/
end Go.Proofs.Try.Dn

/-
 Two dice compared by the program; which die beats which.
-/

namespace Go.Proofs.Try.Dn
open Go.Dn

def hC (m l s : Nat) : Heap := [.cells [.i .i64 0, .i .i64 0, .i .i64 0] true, .cells [.i .i64 (m : Int), .i .i64 (l : Int), .i .i64 (s : Int)] true]

theorem l65_1_all {pg : Pg} {A B C D E F : TV} {b : List Int} {x : Int} (hB : SV B b) : ∀ (n j m l s : Nat), j + n = b.length -> m + l + s + n <= 1000000 -> b.length <= 1000000 ->
  ∃ v, den pg l65_1 [(1, B), (4, C), (5, .ref 1 0), (7, .i .i64 x), (10, A), (11, D), (12, E), (16, B), (17, .i .i64 (b.length : Int)), (18, .i .i64 (j : Int))] (hC m l s) =
   some ⟨.exit 2, [(1, B), (4, C), (5, .ref 1 0), (7, .i .i64 x), (10, A), (11, D), (12, E), (16, B), (17, .i .i64 (b.length : Int)), (18, .i .i64 (b.length : Int)), (19, v)], hC (m + cGt x (b.drop j)) (l + cLt x (b.drop j)) (s + cEq x (b.drop j))⟩
 | 0, j, m, l, s, hj, hb, hl => by
  obtain rfl : j = b.length := by omega
  refine ⟨.b false, ?_⟩
  simp only [List.drop_length, show cGt x [] = 0 from rfl, show cLt x [] = 0 from rfl, show cEq x [] = 0 from rfl, Nat.add_zero]
  rw [l65_1, den_loop]
  simp (disch := omega) [b65_0, Z0, Z1, Z2, Z3, Z4, Z5, Z6, Z7, Z8, Z9, Za, Zb, Zc, Zd, Ze, Zf, Zg, Zh, Zi, Zj, Zk, Zl, Zm, Zn, Zo, Zp, Zq, Zr, Zs, Zt, Zu, Zv, Zw, Zx, k_mv, Zy, Zz, ZA, ZB, ZC, ZD, ZE, ZF, ZG, ZH, ZI, ZJ, ZK, ZL, ZM, ZN, ZO, ZP, ZQ, ZR, ZS, ZT, ZU, ZV, ZW, ZX, ZY, ZZ, Y0, Y1, Y2, Y3, Y4, k_mn, k_mx, Y5, Y6, Y7, Y8, Y9, Ya, Yb, Yc, Yd, Ye, Yf, Yg, Yh, Dn.setLast, Dn.getLast, evalO, mapO, Dn.get, putE, Yi, Yj, Yk, Yl, TV.one, TV.isAgg, Dn.part, Ym, negb, at0, at1, at2, at3, at4, dT, dF, Yn, Option.bind_some, Option.map_some]
 | n + 1, j, m, l, s, hj, hb, hl => by
  obtain ⟨y, hy⟩ : ∃ y, b[j]? = some y := ⟨_, List.getElem?_eq_getElem (by omega)⟩
  obtain ⟨q, q1, q2⟩ := ixI (pg := pg) (R := den pg) (hB.view (hC m l s)) hy
  have hd : b.drop j = y :: b.drop (j + 1) := by
   obtain ⟨h1, rfl⟩ := List.getElem?_eq_some_iff.1 hy
   exact List.drop_eq_getElem_cons h1
  obtain ⟨e1, e2, e3⟩ := cnt_cons x y (b.drop (j + 1))
  rw [hd, e1, e2, e3]
  obtain ⟨N, hN⟩ : ∃ N, N = b.length := ⟨_, rfl⟩
  rw [<- hN] at hj ⊢
  have dj : decide ((j : Int) < (N : Int)) = true := dT (by omega)
  rcases Int.lt_trichotomy x y with h | h | h
  ·obtain ⟨v, r⟩ := l65_1_all (pg := pg) (A := A) (C := C) (D := D) (E := E) (F := F) (x := x) hB n (j + 1) m (l + 1) s (by omega) (by omega) hl
   rw [<- hN] at r
   rw [if_neg (by omega), if_pos h, if_neg (by omega)]
   refine ⟨v, Eq.trans ?_ (r.trans (by simp only [Nat.add_zero, show l + 1 + cLt x (b.drop (j + 1)) = l + (cLt x (b.drop (j + 1)) + 1) by omega]))⟩
   unfold hC at *
   rw [l65_1, den_loop]
   simp (disch := omega) [l65_1, b65_0, Z0, Z1, Z2, Z3, Z4, Z5, Z6, Z7, Z8, Z9, Za, Zb, Zc, Zd, Ze, Zf, Zg, Zh, Zi, Zj, Zk, Zl, Zm, Zn, Zo, Zp, Zq, Zr, Zs, Zt, Zu, Zv, Zw, Zx, k_mv, Zy, Zz, ZA, ZB, ZC, ZD, ZE, ZF, ZG, ZH, ZI, ZJ, ZK, ZL, ZM, ZN, ZO, ZP, ZQ, ZR, ZS, ZT, ZU, ZV, ZW, ZX, ZY, ZZ, Y0, Y1, Y2, Y3, Y4, k_mn, k_mx, Y5, Y6, Y7, Y8, Y9, Ya, Yb, Yc, Yd, Ye, Yf, Yg, Yh, Dn.setLast, Dn.getLast, evalO, mapO, Dn.get, putE, Yi, Yj, Yk, Yl, TV.one, TV.isAgg, Dn.part, Ym, negb, at0, at1, at2, at3, at4, dT, dF, Yn, Option.bind_some, Option.map_some, put2, dj, q1, q2, h]
  ·obtain ⟨v, r⟩ := l65_1_all (pg := pg) (A := A) (C := C) (D := D) (E := E) (F := F) (x := x) hB n (j + 1) m l (s + 1) (by omega) (by omega) hl
   rw [<- hN] at r
   rw [if_neg (by omega), if_neg (by omega), if_pos h]
   refine ⟨v, Eq.trans ?_ (r.trans (by simp only [Nat.add_zero, show s + 1 + cEq x (b.drop (j + 1)) = s + (cEq x (b.drop (j + 1)) + 1) by omega]))⟩
   subst h
   unfold hC at *
   rw [l65_1, den_loop]
   simp (disch := omega) [l65_1, b65_0, Z0, Z1, Z2, Z3, Z4, Z5, Z6, Z7, Z8, Z9, Za, Zb, Zc, Zd, Ze, Zf, Zg, Zh, Zi, Zj, Zk, Zl, Zm, Zn, Zo, Zp, Zq, Zr, Zs, Zt, Zu, Zv, Zw, Zx, k_mv, Zy, Zz, ZA, ZB, ZC, ZD, ZE, ZF, ZG, ZH, ZI, ZJ, ZK, ZL, ZM, ZN, ZO, ZP, ZQ, ZR, ZS, ZT, ZU, ZV, ZW, ZX, ZY, ZZ, Y0, Y1, Y2, Y3, Y4, k_mn, k_mx, Y5, Y6, Y7, Y8, Y9, Ya, Yb, Yc, Yd, Ye, Yf, Yg, Yh, Dn.setLast, Dn.getLast, evalO, mapO, Dn.get, putE, Yi, Yj, Yk, Yl, TV.one, TV.isAgg, Dn.part, Ym, negb, at0, at1, at2, at3, at4, dT, dF, Yn, Option.bind_some, Option.map_some, put2, dj, q1, q2]
  ·obtain ⟨v, r⟩ := l65_1_all (pg := pg) (A := A) (C := C) (D := D) (E := E) (F := F) (x := x) hB n (j + 1) (m + 1) l s (by omega) (by omega) hl
   rw [<- hN] at r
   rw [if_pos h, if_neg (by omega), if_neg (by omega)]
   refine ⟨v, Eq.trans ?_ (r.trans (by simp only [Nat.add_zero, show m + 1 + cGt x (b.drop (j + 1)) = m + (cGt x (b.drop (j + 1)) + 1) by omega]))⟩
   unfold hC at *
   rw [l65_1, den_loop]
   simp (disch := omega) [l65_1, b65_0, Z0, Z1, Z2, Z3, Z4, Z5, Z6, Z7, Z8, Z9, Za, Zb, Zc, Zd, Ze, Zf, Zg, Zh, Zi, Zj, Zk, Zl, Zm, Zn, Zo, Zp, Zq, Zr, Zs, Zt, Zu, Zv, Zw, Zx, k_mv, Zy, Zz, ZA, ZB, ZC, ZD, ZE, ZF, ZG, ZH, ZI, ZJ, ZK, ZL, ZM, ZN, ZO, ZP, ZQ, ZR, ZS, ZT, ZU, ZV, ZW, ZX, ZY, ZZ, Y0, Y1, Y2, Y3, Y4, k_mn, k_mx, Y5, Y6, Y7, Y8, Y9, Ya, Yb, Yc, Yd, Ye, Yf, Yg, Yh, Dn.setLast, Dn.getLast, evalO, mapO, Dn.get, putE, Yi, Yj, Yk, Yl, TV.one, TV.isAgg, Dn.part, Ym, negb, at0, at1, at2, at3, at4, dT, dF, Yn, Option.bind_some, Option.map_some, put2, dj, q1, q2, h]

theorem l65_3_all {pg : Pg} {A B C : TV} {a b : List Int} (hA : SV A a) (hB : SV B b) (hb : b.length <= 100) (ha : a.length <= 100) : ∀ (n i m l s : Nat), i + n = a.length -> m + l + s + n * b.length <= 10000 ->
  ∃ v, den pg l65_3 [(1, B), (4, C), (5, .ref 1 0), (10, A), (11, .i .i64 (a.length : Int)), (12, .i .i64 (i : Int))] (hC m l s) =
   some ⟨.exit 0, [(1, B), (4, C), (5, .ref 1 0), (10, A), (11, .i .i64 (a.length : Int)), (12, .i .i64 (a.length : Int)), (13, v)], hC (m + more (a.drop i) b) (l + less (a.drop i) b) (s + same (a.drop i) b)⟩
 | 0, i, m, l, s, hi, hm => by
  obtain rfl : i = a.length := by omega
  refine ⟨.b false, ?_⟩
  simp only [List.drop_length, show more [] b = 0 from rfl, show less [] b = 0 from rfl, show same [] b = 0 from rfl, Nat.add_zero]
  rw [l65_3, den_loop]
  simp (disch := omega) [b65_2, Z0, Z1, Z2, Z3, Z4, Z5, Z6, Z7, Z8, Z9, Za, Zb, Zc, Zd, Ze, Zf, Zg, Zh, Zi, Zj, Zk, Zl, Zm, Zn, Zo, Zp, Zq, Zr, Zs, Zt, Zu, Zv, Zw, Zx, k_mv, Zy, Zz, ZA, ZB, ZC, ZD, ZE, ZF, ZG, ZH, ZI, ZJ, ZK, ZL, ZM, ZN, ZO, ZP, ZQ, ZR, ZS, ZT, ZU, ZV, ZW, ZX, ZY, ZZ, Y0, Y1, Y2, Y3, Y4, k_mn, k_mx, Y5, Y6, Y7, Y8, Y9, Ya, Yb, Yc, Yd, Ye, Yf, Yg, Yh, Dn.setLast, Dn.getLast, evalO, mapO, Dn.get, putE, Yi, Yj, Yk, Yl, TV.one, TV.isAgg, Dn.part, Ym, negb, at0, at1, at2, at3, at4, dT, dF, Yn, Option.bind_some, Option.map_some]
 | n + 1, i, m, l, s, hi, hm => by
  obtain ⟨x, hx⟩ : ∃ x, a[i]? = some x := ⟨_, List.getElem?_eq_getElem (by omega)⟩
  have hd : a.drop i = x :: a.drop (i + 1) := by
   obtain ⟨h1, rfl⟩ := List.getElem?_eq_some_iff.1 hx
   exact List.drop_eq_getElem_cons h1
  rw [Nat.succ_mul] at hm
  have hall := cnt_all x b
  obtain ⟨N, hN⟩ : ∃ N, N = a.length := ⟨_, rfl⟩
  obtain ⟨M, hM⟩ : ∃ M, M = b.length := ⟨_, rfl⟩
  obtain ⟨v, r⟩ := l65_1_all (pg := pg) (A := A) (C := C) (D := .i .i64 (N : Int)) (E := .i .i64 (i : Int)) (F := .undef) (x := x) hB b.length 0 m l s (by omega) (by omega) (by omega)
  rw [List.drop_zero, <- hM] at r
  obtain ⟨v', r'⟩ := l65_3_all (pg := pg) (C := C) hA hB hb ha n (i + 1) (m + cGt x b) (l + cLt x b) (s + cEq x b) (by omega) (by omega)
  refine ⟨v', Eq.trans ?_ (r'.trans (by
   rw [hd]
   unfold more less same
   simp only [List.map_cons, List.sum_cons, Nat.add_assoc]))⟩
  have ln := (hB.view (hC m l s)).lenK
  rw [<- hM] at ln
  obtain ⟨p, p1, p2⟩ := ixI (pg := pg) (R := den pg) (hA.view (hC m l s)) hx
  generalize hC (m + cGt x b) (l + cLt x b) (s + cEq x b) = H' at *
  generalize hC m l s = H at *
  rw [<- hN] at hi ⊢
  have di : decide ((i : Int) < (N : Int)) = true := dT (by omega)
  simp only [Int.natCast_zero] at r
  rw [l65_3, den_loop]
  simp (disch := omega) [l65_3, b65_2, Z0, Z1, Z2, Z3, Z4, Z5, Z6, Z7, Z8, Z9, Za, Zb, Zc, Zd, Ze, Zf, Zg, Zh, Zi, Zj, Zk, Zl, Zm, Zn, Zo, Zp, Zq, Zr, Zs, Zt, Zu, Zv, Zw, Zx, k_mv, Zy, Zz, ZA, ZB, ZC, ZD, ZE, ZF, ZG, ZH, ZI, ZJ, ZK, ZL, ZM, ZN, ZO, ZP, ZQ, ZR, ZS, ZT, ZU, ZV, ZW, ZX, ZY, ZZ, Y0, Y1, Y2, Y3, Y4, k_mn, k_mx, Y5, Y6, Y7, Y8, Y9, Ya, Yb, Yc, Yd, Ye, Yf, Yg, Yh, Dn.setLast, Dn.getLast, evalO, mapO, Dn.get, putE, Yi, Yj, Yk, Yl, TV.one, TV.isAgg, Dn.part, Ym, negb, at0, at1, at2, at3, at4, dT, dF, Yn, Option.bind_some, Option.map_some, ln, di, p1, p2, go_denK (c := l65_1) rfl, r]

theorem fn65 {pg : Pg} (hF : Free pg) {A B : TV} {a b : List Int} (hA : SV A a) (hB : SV B b) (ha : a.length <= 100) (hb : b.length <= 100) : PFn pg 65 [A, B] (.agg [.i .i64 (more a b : Int), .i .i64 (less a b : Int), .i .i64 (same a b : Int)]) := by
 have hab : a.length * b.length <= 100 * 100 := Nat.mul_le_mul ha hb
 obtain ⟨v, r⟩ := l65_3_all (pg := pg) (C := .ref 0 0) hA hB hb ha a.length 0 0 0 0 (by omega) (by omega)
 rw [List.drop_zero] at r
 simp only [Nat.zero_add, Int.natCast_zero] at r
 have ln := (hA.view (hC 0 0 0)).lenK
 refine .inr ⟨hF.S _ _, .agg [.i .i64 (more a b : Int), .i .i64 (less a b : Int), .i .i64 (same a b : Int)], [.cells [.i .i64 (more a b : Int), .i .i64 (less a b : Int), .i .i64 (same a b : Int)] true, .cells [.i .i64 (more a b : Int), .i .i64 (less a b : Int), .i .i64 (same a b : Int)] true], ?_, by simp [sn_i, sn_b, Yo, Yp, Yq, Yr, Ys, Yt, Yu, Yv, Yw, Yx, Yy, Yz, mapO, elems]⟩
 refine body_of (x := .ret) (e := [(4, .ref 0 0)]) (d := d65) (by rw [hF.F]; rfl) rfl ?_ (.inl rfl) rfl
 unfold hC at r
 generalize more a b = M at *
 generalize less a b = L at *
 generalize same a b = S at *
 simp only [Int.natCast_zero] at r
 simp (disch := omega) [d65, c65, zipE, Z0, Z1, Z2, Z3, Z4, Z5, Z6, Z7, Z8, Z9, Za, Zb, Zc, Zd, Ze, Zf, Zg, Zh, Zi, Zj, Zk, Zl, Zm, Zn, Zo, Zp, Zq, Zr, Zs, Zt, Zu, Zv, Zw, Zx, k_mv, Zy, Zz, ZA, ZB, ZC, ZD, ZE, ZF, ZG, ZH, ZI, ZJ, ZK, ZL, ZM, ZN, ZO, ZP, ZQ, ZR, ZS, ZT, ZU, ZV, ZW, ZX, ZY, ZZ, Y0, Y1, Y2, Y3, Y4, k_mn, k_mx, Y5, Y6, Y7, Y8, Y9, Ya, Yb, Yc, Yd, Ye, Yf, Yg, Yh, Dn.setLast, Dn.getLast, evalO, mapO, Dn.get, putE, Yi, Yj, Yk, Yl, TV.one, TV.isAgg, Dn.part, Ym, negb, at0, at1, at2, at3, at4, dT, dF, Yn, Option.bind_some, Option.map_some, put2, ln, go_denK (c := l65_3) rfl, r]

end Go.Proofs.Try.Dn

/-
 Which die beats which.
-/

namespace Go.Proofs.Try.Dn
open Go.Dn

def bt (a b : List Int) : Bool := decide (less a b < more a b)

theorem al3 {pg : Pg} (H : Heap) (m l s : Int) : ∃ H1 H2 : Heap, dkc pg (den pg) (.alloc [.i .i64 0, .i .i64 0, .i .i64 0] true) [] H = some (.ref H.length 0, H1) /\ dkc pg (den pg) (.st 3) [.ref H.length 0, .agg [.i .i64 m, .i .i64 l, .i .i64 s]] H1 = some (.undef, H2) /\
  H2[H.length]? = some (.cells [.i .i64 m, .i .i64 l, .i .i64 s] true) /\ (∀ j, j < H.length -> H2[j]? = H[j]?) /\ H2.length = H.length + 1 := by
 refine ⟨_, H ++ [.cells [.i .i64 m, .i .i64 l, .i .i64 s] true], ZF _ _ _, ?_, getLast _ _, fun j hj => List.getElem?_append_left hj, by simp⟩
 rw [ZP, getLast]
 simp [stC, put2, TV.one]

theorem eqA3 {pg : Pg} (m l s : Nat) (H : Heap) : dkc pg (den pg) (.eqA true [true, true, true]) [.agg [.i .i64 (m : Int), .i .i64 (l : Int), .i .i64 (s : Int)], .agg [.i .i64 (l : Int), .i .i64 (m : Int), .i .i64 (s : Int)]] H = some (.b (decide (m ≠ l)), H) := by
 rw [ZB]
 by_cases h : m = l
 ·subst h
  simp [eqL, eqS, up, negb]
 ·have h1 : ¬ (m : Int) = (l : Int) := by omega
  simp [eqL, eqS, up, negb, h1, h]

theorem l63_1_all {pg : Pg} (hF : Free pg) {T A V3 V11 V12 V13 : TV} {a : List Int} {ls : List (List Int)} (hT : SSV T ls) (hA : SV A a) (ha : a.length <= 100) (hl : ls.length <= 100) (hL : ∀ x ∈ ls, x.length <= 100) {base : Nat} {H0 : Heap} :
  ∀ (n j : Nat) (R : TV) (H : Heap), j + n = ls.length -> RowG elB base H0 H R ((ls.take j).map (bt a)) ->
  ∃ R' H' v, den pg l63_1 [(0, T), (3, V3), (5, A), (6, R), (11, V11), (12, V12), (13, V13), (17, T), (18, .i .i64 (ls.length : Int)), (19, .i .i64 (j : Int))] H =
   some ⟨.exit 2, [(0, T), (3, V3), (5, A), (6, R'), (11, V11), (12, V12), (13, V13), (17, T), (18, .i .i64 (ls.length : Int)), (19, .i .i64 (ls.length : Int)), (20, v)], H'⟩ /\ RowG elB base H0 H' R' (ls.map (bt a))
 | 0, j, R, H, hj, hR => by
  obtain rfl : j = ls.length := by omega
  rw [List.take_length] at hR
  refine ⟨R, H, .b false, ?_, hR⟩
  rw [l63_1, den_loop]
  simp (disch := omega) [b63_0, Z0, Z1, Z2, Z3, Z4, Z5, Z6, Z7, Z8, Z9, Za, Zb, Zc, Zd, Ze, Zf, Zg, Zh, Zi, Zj, Zk, Zl, Zm, Zn, Zo, Zp, Zq, Zr, Zs, Zt, Zu, Zv, Zw, Zx, k_mv, Zy, Zz, ZA, ZB, ZC, ZD, ZE, ZF, ZG, ZH, ZI, ZJ, ZK, ZL, ZM, ZN, ZO, ZP, ZQ, ZR, ZS, ZT, ZU, ZV, ZW, ZX, ZY, ZZ, Y0, Y1, Y2, Y3, Y4, k_mn, k_mx, Y5, Y6, Y7, Y8, Y9, Ya, Yb, Yc, Yd, Ye, Yf, Yg, Yh, Dn.setLast, Dn.getLast, evalO, mapO, Dn.get, putE, Yi, Yj, Yk, Yl, TV.one, TV.isAgg, Dn.part, Ym, negb, at0, at1, at2, at3, at4, dT, dF, Yn, Option.bind_some, Option.map_some]
 | n + 1, j, R, H, hj, hR => by
  obtain ⟨b, hb⟩ : ∃ b, ls[j]? = some b := ⟨_, List.getElem?_eq_getElem (by omega)⟩
  have hbL := hL b (List.mem_of_getElem? hb)
  obtain ⟨p, B, p1, p2, hB⟩ := hT.ix (pg := pg) (R := den pg) hb H
  obtain ⟨A', s1, hA'⟩ := hA.snap H 7
  obtain ⟨B', s2, hB'⟩ := hB.snap H 7
  have c65 := PFn.call (fn65 (pg := pg) hF hA' hB' ha hbL) (args := [A, B]) (ks := []) (fs := []) (cs := []) (H := H) (by simp [snapArgs, s1, s2])
  obtain ⟨m, hm⟩ : ∃ m, m = more a b := ⟨_, rfl⟩
  obtain ⟨l, hl'⟩ : ∃ l, l = less a b := ⟨_, rfl⟩
  obtain ⟨s, hs⟩ : ∃ s, s = same a b := ⟨_, rfl⟩
  rw [<- hm, <- hl', <- hs] at c65
  obtain ⟨H1, H2, a1, a2, a3, a4, a5⟩ := al3 (pg := pg) H (m : Int) (l : Int) (s : Int)
  obtain ⟨H3, H4, b1, b2, b3, b4, b5⟩ := al3 (pg := pg) H2 (l : Int) (m : Int) (s : Int)
  have a3' : H4[H.length]? = some (.cells [.i .i64 (m : Int), .i .i64 (l : Int), .i .i64 (s : Int)] true) := by rw [b4 _ (by omega)]; exact a3
  have eq := eqA3 (pg := pg) m l s H4
  have hR4 : RowG elB base H0 H4 R ((ls.take j).map (bt a)) := by
   have hlen := hR.len
   refine ⟨hR.own.mono fun id hid => ?_, fun i hi => ?_, hR.new, by omega⟩
   ·have := hR.own.lt id hid
    rw [b4 _ (by omega), a4 _ this]
   ·rw [b4 _ (by omega), a4 _ (by omega), hR.old i hi]
  have bld : dkc pg (den pg) (.build [.i .i64 0, .i .i64 0, .i .i64 0] [(0, 1), (1, 1), (2, 1)]) [.i .i64 (l : Int), .i .i64 (m : Int), .i .i64 (s : Int)] H2 = some (.agg [.i .i64 (l : Int), .i .i64 (m : Int), .i .i64 (s : Int)], H2) := by
   rw [Y6]; simp [fillP, put2, up, TV.cells, TV.one]
  obtain ⟨R1, H5, e1, e2⟩ := hR4.push (bt a b) (bytes := 1) (by simp; omega)
  have e1' : appRun 1 false 1 R (.sl H4.length 0 1 false 1 (some 1)) (H4 ++ [.cells [.b (bt a b)] false]) = some (R1, H5) := e1
  have bs := k_bslB1 (pg := pg) (R := den pg) false (bt a b) H4
  have htk : (ls.take j).map (bt a) ++ [bt a b] = (ls.take (j + 1)).map (bt a) := by
   rw [List.take_add_one, hb, List.map_append]; rfl
  rw [htk] at e2
  obtain ⟨R', H', v, r1, r2⟩ := l63_1_all (pg := pg) hF (V3 := V3) (V11 := V11) (V12 := V12) (V13 := V13) hT hA ha hl hL n (j + 1) R1 H5 (by omega) e2
  refine ⟨R', H', v, Eq.trans ?_ r1, r2⟩
  obtain ⟨N, hN⟩ : ∃ N, N = ls.length := ⟨_, rfl⟩
  rw [<- hN] at hj ⊢
  have dj : decide ((j : Int) < (N : Int)) = true := dT (by omega)
  have hbt : bt a b = (decide (m ≠ l) && decide (l < m)) := by
   unfold bt
   rw [<- hm, <- hl']
   by_cases h : l < m
   ·rw [dT h, dT (show m ≠ l by omega)]; rfl
   ·rw [dF h, Bool.and_false]
  clear a5 b5 a4 b4
  generalize bt a b = X at *
  by_cases hml : m = l
  ·have hX : X = false := by rw [hbt, dF (by omega), Bool.false_and]
   subst hX
   rw [dF (by omega)] at eq
   rw [l63_1, den_loop]
   simp (disch := omega) [l63_1, b63_0, Z0, Z1, Z2, Z3, Z4, Z5, Z6, Z7, Z8, Z9, Za, Zb, Zc, Zd, Ze, Zf, Zg, Zh, Zi, Zj, Zk, Zl, Zm, Zn, Zo, Zp, Zq, Zr, Zs, Zt, Zu, Zv, Zw, Zx, k_mv, Zy, Zz, ZA, ZB, ZC, ZD, ZE, ZF, ZG, ZH, ZI, ZJ, ZK, ZL, ZM, ZN, ZO, ZP, ZQ, ZR, ZS, ZT, ZU, ZV, ZW, ZX, ZY, ZZ, Y0, Y1, Y2, Y3, Y4, k_mn, k_mx, Y5, Y6, Y7, Y8, Y9, Ya, Yb, Yc, Yd, Ye, Yf, Yg, Yh, Dn.setLast, Dn.getLast, evalO, mapO, Dn.get, putE, Yi, Yj, Yk, Yl, TV.one, TV.isAgg, Dn.part, Ym, negb, at0, at1, at2, at3, at4, dT, dF, Yn, Option.bind_some, Option.map_some, dj, p1, p2, c65, a1, a2, a3, a3', b1, b2, b3, bld, eq, bs, e1']
  ·rw [dT hml] at eq
   rw [dT hml, Bool.true_and] at hbt
   by_cases hlm : l < m
   ·rw [dT hlm] at hbt
    subst hbt
    rw [l63_1, den_loop]
    simp (disch := omega) [l63_1, b63_0, Z0, Z1, Z2, Z3, Z4, Z5, Z6, Z7, Z8, Z9, Za, Zb, Zc, Zd, Ze, Zf, Zg, Zh, Zi, Zj, Zk, Zl, Zm, Zn, Zo, Zp, Zq, Zr, Zs, Zt, Zu, Zv, Zw, Zx, k_mv, Zy, Zz, ZA, ZB, ZC, ZD, ZE, ZF, ZG, ZH, ZI, ZJ, ZK, ZL, ZM, ZN, ZO, ZP, ZQ, ZR, ZS, ZT, ZU, ZV, ZW, ZX, ZY, ZZ, Y0, Y1, Y2, Y3, Y4, k_mn, k_mx, Y5, Y6, Y7, Y8, Y9, Ya, Yb, Yc, Yd, Ye, Yf, Yg, Yh, Dn.setLast, Dn.getLast, evalO, mapO, Dn.get, putE, Yi, Yj, Yk, Yl, TV.one, TV.isAgg, Dn.part, Ym, negb, at0, at1, at2, at3, at4, dT, dF, Yn, Option.bind_some, Option.map_some, dj, p1, p2, c65, a1, a2, a3, a3', b1, b2, b3, bld, eq, bs, e1']
   ·rw [dF hlm] at hbt
    subst hbt
    rw [l63_1, den_loop]
    simp (disch := omega) [l63_1, b63_0, Z0, Z1, Z2, Z3, Z4, Z5, Z6, Z7, Z8, Z9, Za, Zb, Zc, Zd, Ze, Zf, Zg, Zh, Zi, Zj, Zk, Zl, Zm, Zn, Zo, Zp, Zq, Zr, Zs, Zt, Zu, Zv, Zw, Zx, k_mv, Zy, Zz, ZA, ZB, ZC, ZD, ZE, ZF, ZG, ZH, ZI, ZJ, ZK, ZL, ZM, ZN, ZO, ZP, ZQ, ZR, ZS, ZT, ZU, ZV, ZW, ZX, ZY, ZZ, Y0, Y1, Y2, Y3, Y4, k_mn, k_mx, Y5, Y6, Y7, Y8, Y9, Ya, Yb, Yc, Yd, Ye, Yf, Yg, Yh, Dn.setLast, Dn.getLast, evalO, mapO, Dn.get, putE, Yi, Yj, Yk, Yl, TV.one, TV.isAgg, Dn.part, Ym, negb, at0, at1, at2, at3, at4, dT, dF, Yn, Option.bind_some, Option.map_some, dj, p1, p2, c65, a1, a2, a3, a3', b1, b2, b3, bld, eq, bs, e1']

end Go.Proofs.Try.Dn

/-
 The table of which die beats which.
-/

namespace Go.Proofs.Try.Dn
open Go.Dn

def tbl (ls : List (List Int)) : List (List Bool) := ls.map fun a => ls.map (bt a)

theorem l63_3_all {pg : Pg} (hF : Free pg) {T : TV} {ls : List (List Int)} (hT : SSV T ls) (hl : ls.length <= 100) (hL : ∀ x ∈ ls, x.length <= 100) :
  ∀ (n i : Nat) (O : TV) (ts : List {t : TV // t.one = true}) (H : Heap), i + n = ls.length -> NestD elB H O ts ((ls.take i).map fun a => ls.map (bt a)) ->
  ∃ O' ts' H' v, den pg l63_3 [(0, T), (3, O), (11, T), (12, .i .i64 (ls.length : Int)), (13, .i .i64 (i : Int))] H =
   some ⟨.exit 0, [(0, T), (3, O'), (11, T), (12, .i .i64 (ls.length : Int)), (13, .i .i64 (ls.length : Int)), (14, v)], H'⟩ /\ NestD elB H' O' ts' (tbl ls)
 | 0, i, O, ts, H, hi, hO => by
  obtain rfl : i = ls.length := by omega
  rw [List.take_length] at hO
  refine ⟨O, ts, H, .b false, ?_, hO⟩
  rw [l63_3, den_loop]
  simp (disch := omega) [b63_2, Z0, Z1, Z2, Z3, Z4, Z5, Z6, Z7, Z8, Z9, Za, Zb, Zc, Zd, Ze, Zf, Zg, Zh, Zi, Zj, Zk, Zl, Zm, Zn, Zo, Zp, Zq, Zr, Zs, Zt, Zu, Zv, Zw, Zx, k_mv, Zy, Zz, ZA, ZB, ZC, ZD, ZE, ZF, ZG, ZH, ZI, ZJ, ZK, ZL, ZM, ZN, ZO, ZP, ZQ, ZR, ZS, ZT, ZU, ZV, ZW, ZX, ZY, ZZ, Y0, Y1, Y2, Y3, Y4, k_mn, k_mx, Y5, Y6, Y7, Y8, Y9, Ya, Yb, Yc, Yd, Ye, Yf, Yg, Yh, Dn.setLast, Dn.getLast, evalO, mapO, Dn.get, putE, Yi, Yj, Yk, Yl, TV.one, TV.isAgg, Dn.part, Ym, negb, at0, at1, at2, at3, at4, dT, dF, Yn, Option.bind_some, Option.map_some]
 | n + 1, i, O, ts, H, hi, hO => by
  obtain ⟨a, ha⟩ : ∃ a, ls[i]? = some a := ⟨_, List.getElem?_eq_getElem (by omega)⟩
  obtain ⟨p, A, p1, p2, hA⟩ := hT.ix (pg := pg) (R := den pg) ha H
  have ln := hT.len H
  obtain ⟨N, hN⟩ : ∃ N, N = ls.length := ⟨_, rfl⟩
  obtain ⟨R, H1, v, r1, r2⟩ := l63_1_all (pg := pg) hF (V3 := O) (V11 := T) (V12 := .i .i64 (N : Int)) (V13 := .i .i64 (i : Int)) hT hA (hL a (List.mem_of_getElem? ha)) hl hL (base := H.length) (H0 := H) ls.length 0 .nilsl H (by omega) (RowG.nil H)
  simp only [Int.natCast_zero] at r1
  have hO1 : NestD elB H1 O ts ((ls.take i).map fun a => ls.map (bt a)) := hO.mono r2.old
  have bs := k_bslC (pg := pg) (R := den pg) (Own_one r2.own).1 (Own_one r2.own).2.2 H1
  obtain ⟨O2, H2, r, c1, c2, c3⟩ := hO1.app r2.own (fun id hid he => by have := r2.new id hid; have := hO.own.lt id he; omega) (fun j u id hu hid he => by have := r2.new id hid; have := hO.lt hu he; omega) (by simp; omega)
  have htk : (ls.take i).map (fun a => ls.map (bt a)) ++ [ls.map (bt a)] = (ls.take (i + 1)).map fun a => ls.map (bt a) := by
   rw [List.take_add_one, ha, List.map_append]; rfl
  rw [htk] at c2
  obtain ⟨O', ts', H', v', q1, q2⟩ := l63_3_all (pg := pg) hF hT hl hL n (i + 1) O2 _ H2 (by omega) c2
  refine ⟨O', ts', H', v', Eq.trans ?_ q1, q2⟩
  rw [<- hN] at hi r1 ln ⊢
  have di : decide ((i : Int) < (N : Int)) = true := dT (by omega)
  rw [l63_3, den_loop]
  simp (disch := omega) [l63_3, b63_2, Z0, Z1, Z2, Z3, Z4, Z5, Z6, Z7, Z8, Z9, Za, Zb, Zc, Zd, Ze, Zf, Zg, Zh, Zi, Zj, Zk, Zl, Zm, Zn, Zo, Zp, Zq, Zr, Zs, Zt, Zu, Zv, Zw, Zx, k_mv, Zy, Zz, ZA, ZB, ZC, ZD, ZE, ZF, ZG, ZH, ZI, ZJ, ZK, ZL, ZM, ZN, ZO, ZP, ZQ, ZR, ZS, ZT, ZU, ZV, ZW, ZX, ZY, ZZ, Y0, Y1, Y2, Y3, Y4, k_mn, k_mx, Y5, Y6, Y7, Y8, Y9, Ya, Yb, Yc, Yd, Ye, Yf, Yg, Yh, Dn.setLast, Dn.getLast, evalO, mapO, Dn.get, putE, Yi, Yj, Yk, Yl, TV.one, TV.isAgg, Dn.part, Ym, negb, at0, at1, at2, at3, at4, dT, dF, Yn, Option.bind_some, Option.map_some, ln, di, p1, p2, go_denK (c := l63_1) rfl, r1, bs, c1]

theorem body_ofs {pg : Pg} {f : Nat} {xs : List TV} {d : DFun} {x : Ex} {e : Env} {H H' : Heap} {vs : List TV} (hd : pg.F f = some d) (hl : xs.length = d.np)
  (ho : go pg (den pg) [.c d.body] .normal (zipE xs 0) H = some ⟨x, e, H'⟩) (hx : x = .ret \/ x = .normal) (hv : mapO (resRun e H') d.res = some vs) : bodyRun pg (den pg) f xs H = some (tupR vs, H') := by
 refine bodyRun_of (vs := vs) (o := ⟨x, e, H'⟩) hd hl (by rw [runC_go]; exact ho) ?_ hv
 intro id
 rcases hx with rfl | rfl <;> simp

theorem body63 {pg : Pg} (hF : Free pg) {T : TV} {ls : List (List Int)} (hT : SSV T ls) (hl : ls.length <= 100) (hL : ∀ x ∈ ls, x.length <= 100) : ∃ O' H', bodyRun pg (den pg) 63 [T] [] = some (O', H') /\ Nest elB H' O' (tbl ls) := by
 have ln := hT.len []
 obtain ⟨O', ts', H', v', q1, q2⟩ := l63_3_all (pg := pg) hF hT hl hL ls.length 0 .nilsl [] [] (by omega) (NestD.nil [])
 simp only [Int.natCast_zero] at q1
 obtain ⟨N, hN⟩ : ∃ N, N = ls.length := ⟨_, rfl⟩
 rw [<- hN] at q1 ln
 refine ⟨O', H', ?_, q2.nest⟩
 refine body_of (x := .ret) (e := [(2, O')]) (d := d63) (by rw [hF.F]; rfl) rfl ?_ (.inl rfl) rfl
 simp (disch := omega) [d63, c63, zipE, Z0, Z1, Z2, Z3, Z4, Z5, Z6, Z7, Z8, Z9, Za, Zb, Zc, Zd, Ze, Zf, Zg, Zh, Zi, Zj, Zk, Zl, Zm, Zn, Zo, Zp, Zq, Zr, Zs, Zt, Zu, Zv, Zw, Zx, k_mv, Zy, Zz, ZA, ZB, ZC, ZD, ZE, ZF, ZG, ZH, ZI, ZJ, ZK, ZL, ZM, ZN, ZO, ZP, ZQ, ZR, ZS, ZT, ZU, ZV, ZW, ZX, ZY, ZZ, Y0, Y1, Y2, Y3, Y4, k_mn, k_mx, Y5, Y6, Y7, Y8, Y9, Ya, Yb, Yc, Yd, Ye, Yf, Yg, Yh, Dn.setLast, Dn.getLast, evalO, mapO, Dn.get, putE, Yi, Yj, Yk, Yl, TV.one, TV.isAgg, Dn.part, Ym, negb, at0, at1, at2, at3, at4, dT, dF, Yn, Option.bind_some, Option.map_some, ln, go_denK (c := l63_3) rfl, q1]

theorem fn63 {pg : Pg} (hF : Free pg) {T : TV} {ls : List (List Int)} (hT : SSV T ls) (hl : ls.length <= 100) (hL : ∀ x ∈ ls, x.length <= 100) : PFn pg 63 [T] ((elRw elB false).lt false (tbl ls)) := by
 obtain ⟨O', H', q1, q2⟩ := body63 (pg := pg) hF hT hl hL
 exact .inr ⟨hF.S _ _, O', H', q1, q2.fin elB_flat 5⟩

theorem snapSSV {T : TV} {l : List (List Int)} (hT : SSV T l) (H : Heap) : ∃ T', snapArgs H [] [T] = some [T'] /\ SSV T' l := by
 obtain ⟨t', h1, h2⟩ := hT.snap H 6
 exact ⟨t', by simp [snapArgs, h1], h2⟩

theorem call55 {pg : Pg} (hF : Free pg) {T : TV} {ls : List (List Int)} (hT : SSV T ls) (hl : ls.length <= 1000000) (hL : ∀ x ∈ ls, x.length <= 1000000) (H : Heap) : callRun pg (den pg) (.pu []) [.fn 55 [] [], T] H = some (.i .i64 (chkD ls), H) := by
 obtain ⟨T', s1, s2⟩ := snapSSV hT H
 exact PFn.call (fn55 hF s2 hl hL) (args := [T]) (ks := []) (fs := []) (cs := []) (by simpa using s1)

theorem call63 {pg : Pg} (hF : Free pg) {T : TV} {ls : List (List Int)} (hT : SSV T ls) (hl : ls.length <= 100) (hL : ∀ x ∈ ls, x.length <= 100) (H : Heap) : callRun pg (den pg) (.pu []) [.fn 63 [] [], T] H = some ((elRw elB false).lt false (tbl ls), H) := by
 obtain ⟨T', s1, s2⟩ := snapSSV hT H
 exact PFn.call (fn63 hF s2 hl hL) (args := [T]) (ks := []) (fs := []) (cs := []) (by simpa using s1)

end Go.Proofs.Try.Dn

/-
 Compare: two lists, dice or not.
-/

namespace Go.Proofs.Try.Dn
open Go.Dn

theorem SV.cells' {A : TV} {a : List Int} (h : SV A a) : A.cells = [A] := by
 rcases h with ⟨rfl, _⟩ | ⟨b, rfl⟩ <;> rfl

theorem two {pg : Pg} {A B : TV} {a b : List Int} (hA : SV A a) (hB : SV B b) (H : Heap) : dkc pg (den pg) (.bsl false [.nilsl] false 2 [0, 1]) [A, B] H = some (.sl H.length 0 1 false 2 (some 2), H ++ [.cells [A, B] false]) /\
  ∃ T, snap .borrow (H ++ [.cells [A, B] false]) 9 (.sl H.length 0 1 false 2 (some 2)) = some T /\ SSV T [a, b] := by
 refine ⟨by simp [dkc, dk, fillP, repl, put2, hA.one, hB.one, SV.cells' hA, SV.cells' hB], ?_⟩
 obtain ⟨A', s1, hA'⟩ := hA.snap (H ++ [.cells [A, B] false]) 6
 obtain ⟨B', s2, hB'⟩ := hB.snap (H ++ [.cells [A, B] false]) 6
 refine ⟨.bs true 1 [A', B'], ?_, .inr ⟨true, _, rfl, rfl, fun i e x he hx => ?_⟩⟩
 ·rw [snS_sl _ (by decide), getLast, Yw, if_pos ⟨by simp, .inr rfl⟩]
  show (mapO (Dn.snap .borrow _ 8) [A, B]).map _ = _
  rw [mapO, s1, Option.bind_some, mapO, s2, Option.bind_some, mapO]
  rfl
 ·match i with
  | 0 => simp at he hx; subst he hx; exact hA'
  | 1 => simp at he hx; subst he hx; exact hB'
  | i + 2 => simp at he

end Go.Proofs.Try.Dn

