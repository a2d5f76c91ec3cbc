/-
  Twins and even dice, as functions of values.
-/
import Derived.Test.YtijeefncmgjlpaaEl
set_option linter.unusedSimpArgs false
set_option linter.unusedVariables false

set_option maxHeartbeats 1000000
namespace Go.Proofs.Try.Dn
open Go.Dn

theorem fin_two {H : Heap} {t : TV} {l : List PL} (h : ∃ rs, rs.map (·.v) = l /\ elRP.Own H t rs /\ ∀ x ∈ rs, Gd H x) (k : Int) : snap .fin H 9 (.tup [t, .i .i64 k]) = some (.tup [LPv l, .i .i64 k]) := by
 obtain ⟨rs, rfl, h1, h2⟩ := h
 rw [Yx]
 simp [mapO, (ownP_fin h1 h2).1, Yp]

theorem fn20 {pg : Pg} (hF : Free pg) (hQ : pg.Q 81 = some 2) {A B : TV} {a b : List Int} (hA : SV A a) (hB : SV B b) (h0 : chkD [a, b] = 0) : PFn pg 20 [A, B] (.tup [LPv (twinsL a b), .i .i64 0]) := by
 obtain ⟨t, H', h1, h2, _⟩ := body20 hF hQ hA hB h0 []
 exact .inr ⟨hF.S _ _, _, H', h1, fin_two (by obtain ⟨rs, a, b, c, _⟩ := h2; exact ⟨rs, a, b, fun x hx => (c x hx).1⟩) 0⟩

def sizesB (n m : Int) : Bool := decide (1 <= n /\ n <= 8 /\ 1 <= m /\ m <= 8)

theorem fn60 {pg : Pg} (hF : Free pg) (n m : Int) : PFn pg 60 [.i .i64 n, .i .i64 m] (.b (sizesB n m)) := by
 refine .of1 (x := .ret) (e := [(4, .b (sizesB n m))]) (H' := []) (hF.S _ _) (d := d60) (by rw [hF.F]; rfl) rfl ?_ (.inl rfl) rfl (by simp [sn_i, sn_b, Yo, Yp, Yq, Yr, Ys, Yt, Yu, Yv, Yw, Yx, Yy, Yz, mapO, elems])
 unfold sizesB
 by_cases h1 : m < n
 ·by_cases h2 : 1 <= m
  ·have e1 : decide (m ≥ 1) = true := dT h2
   by_cases h3 : n <= 8
   ·have e3 : decide (1 <= n /\ n <= 8 /\ 1 <= m /\ m <= 8) = true := dT (by omega)
    rw [e3]
    have e2 : decide (n <= 8) = true := dT h3
    have e4 : ¬ m > n := by omega
    simp (disch := omega) [d60, c60, zipE, Z0, Z1, Z2, Z3, Z4, Z5, Z6, Z7, Z8, Z9, Za, Zb, Zc, Zd, Ze, Zf, Zg, Zh, Zi, Zj, Zk, Zl, Zm, Zn, Zo, Zp, Zq, Zr, Zs, Zt, Zu, Zv, Zw, Zx, k_mv, Zy, Zz, ZA, ZB, ZC, ZD, ZE, ZF, ZG, ZH, ZI, ZJ, ZK, ZL, ZM, ZN, ZO, ZP, ZQ, ZR, ZS, ZT, ZU, ZV, ZW, ZX, ZY, ZZ, Y0, Y1, Y2, Y3, Y4, k_mn, k_mx, Y5, Y6, Y7, Y8, Y9, Ya, Yb, Yc, Yd, Ye, Yf, Yg, Yh, Dn.setLast, Dn.getLast, evalO, mapO, Dn.get, putE, Yi, Yj, Yk, Yl, TV.one, TV.isAgg, Dn.part, Ym, negb, at0, at1, at2, at3, at4, dT, dF, Yn, Option.bind_some, Option.map_some, k_mn, k_mx, h1, e4, e1, e2]
   ·have e3 : decide (1 <= n /\ n <= 8 /\ 1 <= m /\ m <= 8) = false := dF (by omega)
    rw [e3]
    have e2 : decide (n <= 8) = false := dF h3
    have e4 : ¬ m > n := by omega
    simp (disch := omega) [d60, c60, zipE, Z0, Z1, Z2, Z3, Z4, Z5, Z6, Z7, Z8, Z9, Za, Zb, Zc, Zd, Ze, Zf, Zg, Zh, Zi, Zj, Zk, Zl, Zm, Zn, Zo, Zp, Zq, Zr, Zs, Zt, Zu, Zv, Zw, Zx, k_mv, Zy, Zz, ZA, ZB, ZC, ZD, ZE, ZF, ZG, ZH, ZI, ZJ, ZK, ZL, ZM, ZN, ZO, ZP, ZQ, ZR, ZS, ZT, ZU, ZV, ZW, ZX, ZY, ZZ, Y0, Y1, Y2, Y3, Y4, k_mn, k_mx, Y5, Y6, Y7, Y8, Y9, Ya, Yb, Yc, Yd, Ye, Yf, Yg, Yh, Dn.setLast, Dn.getLast, evalO, mapO, Dn.get, putE, Yi, Yj, Yk, Yl, TV.one, TV.isAgg, Dn.part, Ym, negb, at0, at1, at2, at3, at4, dT, dF, Yn, Option.bind_some, Option.map_some, k_mn, k_mx, h1, e4, e1, e2]
  ·have e1 : decide (m ≥ 1) = false := dF h2
   have e3 : decide (1 <= n /\ n <= 8 /\ 1 <= m /\ m <= 8) = false := dF (by omega)
   rw [e3]
   simp (disch := omega) [d60, c60, zipE, Z0, Z1, Z2, Z3, Z4, Z5, Z6, Z7, Z8, Z9, Za, Zb, Zc, Zd, Ze, Zf, Zg, Zh, Zi, Zj, Zk, Zl, Zm, Zn, Zo, Zp, Zq, Zr, Zs, Zt, Zu, Zv, Zw, Zx, k_mv, Zy, Zz, ZA, ZB, ZC, ZD, ZE, ZF, ZG, ZH, ZI, ZJ, ZK, ZL, ZM, ZN, ZO, ZP, ZQ, ZR, ZS, ZT, ZU, ZV, ZW, ZX, ZY, ZZ, Y0, Y1, Y2, Y3, Y4, k_mn, k_mx, Y5, Y6, Y7, Y8, Y9, Ya, Yb, Yc, Yd, Ye, Yf, Yg, Yh, Dn.setLast, Dn.getLast, evalO, mapO, Dn.get, putE, Yi, Yj, Yk, Yl, TV.one, TV.isAgg, Dn.part, Ym, negb, at0, at1, at2, at3, at4, dT, dF, Yn, Option.bind_some, Option.map_some, k_mn, k_mx, h1, e1]
 ·by_cases h2 : 1 <= n
  ·have e1 : decide (n ≥ 1) = true := dT h2
   have hmx : (if m > n then m else n) = m := by split <;> omega
   by_cases h3 : m <= 8
   ·have e3 : decide (1 <= n /\ n <= 8 /\ 1 <= m /\ m <= 8) = true := dT (by omega)
    rw [e3]
    have e2 : decide (m <= 8) = true := dT h3
    simp (disch := omega) [d60, c60, zipE, Z0, Z1, Z2, Z3, Z4, Z5, Z6, Z7, Z8, Z9, Za, Zb, Zc, Zd, Ze, Zf, Zg, Zh, Zi, Zj, Zk, Zl, Zm, Zn, Zo, Zp, Zq, Zr, Zs, Zt, Zu, Zv, Zw, Zx, k_mv, Zy, Zz, ZA, ZB, ZC, ZD, ZE, ZF, ZG, ZH, ZI, ZJ, ZK, ZL, ZM, ZN, ZO, ZP, ZQ, ZR, ZS, ZT, ZU, ZV, ZW, ZX, ZY, ZZ, Y0, Y1, Y2, Y3, Y4, k_mn, k_mx, Y5, Y6, Y7, Y8, Y9, Ya, Yb, Yc, Yd, Ye, Yf, Yg, Yh, Dn.setLast, Dn.getLast, evalO, mapO, Dn.get, putE, Yi, Yj, Yk, Yl, TV.one, TV.isAgg, Dn.part, Ym, negb, at0, at1, at2, at3, at4, dT, dF, Yn, Option.bind_some, Option.map_some, k_mn, k_mx, h1, hmx, e1, e2]
   ·have e3 : decide (1 <= n /\ n <= 8 /\ 1 <= m /\ m <= 8) = false := dF (by omega)
    rw [e3]
    have e2 : decide (m <= 8) = false := dF h3
    simp (disch := omega) [d60, c60, zipE, Z0, Z1, Z2, Z3, Z4, Z5, Z6, Z7, Z8, Z9, Za, Zb, Zc, Zd, Ze, Zf, Zg, Zh, Zi, Zj, Zk, Zl, Zm, Zn, Zo, Zp, Zq, Zr, Zs, Zt, Zu, Zv, Zw, Zx, k_mv, Zy, Zz, ZA, ZB, ZC, ZD, ZE, ZF, ZG, ZH, ZI, ZJ, ZK, ZL, ZM, ZN, ZO, ZP, ZQ, ZR, ZS, ZT, ZU, ZV, ZW, ZX, ZY, ZZ, Y0, Y1, Y2, Y3, Y4, k_mn, k_mx, Y5, Y6, Y7, Y8, Y9, Ya, Yb, Yc, Yd, Ye, Yf, Yg, Yh, Dn.setLast, Dn.getLast, evalO, mapO, Dn.get, putE, Yi, Yj, Yk, Yl, TV.one, TV.isAgg, Dn.part, Ym, negb, at0, at1, at2, at3, at4, dT, dF, Yn, Option.bind_some, Option.map_some, k_mn, k_mx, h1, hmx, e1, e2]
  ·have e1 : decide (n ≥ 1) = false := dF h2
   have e3 : decide (1 <= n /\ n <= 8 /\ 1 <= m /\ m <= 8) = false := dF (by omega)
   rw [e3]
   simp (disch := omega) [d60, c60, zipE, Z0, Z1, Z2, Z3, Z4, Z5, Z6, Z7, Z8, Z9, Za, Zb, Zc, Zd, Ze, Zf, Zg, Zh, Zi, Zj, Zk, Zl, Zm, Zn, Zo, Zp, Zq, Zr, Zs, Zt, Zu, Zv, Zw, Zx, k_mv, Zy, Zz, ZA, ZB, ZC, ZD, ZE, ZF, ZG, ZH, ZI, ZJ, ZK, ZL, ZM, ZN, ZO, ZP, ZQ, ZR, ZS, ZT, ZU, ZV, ZW, ZX, ZY, ZZ, Y0, Y1, Y2, Y3, Y4, k_mn, k_mx, Y5, Y6, Y7, Y8, Y9, Ya, Yb, Yc, Yd, Ye, Yf, Yg, Yh, Dn.setLast, Dn.getLast, evalO, mapO, Dn.get, putE, Yi, Yj, Yk, Yl, TV.one, TV.isAgg, Dn.part, Ym, negb, at0, at1, at2, at3, at4, dT, dF, Yn, Option.bind_some, Option.map_some, k_mn, k_mx, h1, e1]

theorem call60 {pg : Pg} (hF : Free pg) (n m : Int) (H : Heap) : callRun pg (den pg) (.pu []) [.fn 60 [] [], .i .i64 n, .i .i64 m] H = some (.b (sizesB n m), H) :=
 PFn.call (fn60 hF n m) (args := [.i .i64 n, .i .i64 m]) (ks := []) (fs := []) (cs := []) (by simp [snapArgs, sn_i])

def oneM (N : Nat) : Int -> Option Nat := fun k => if 0 <= k /\ k < (N : Int) then some 1 else none

theorem oneM_succ (N : Nat) : updM (oneM N) (N : Int) 1 = oneM (N + 1) := by
 funext k
 unfold updM oneM
 by_cases h : k = (N : Int)
 ·rw [if_pos h, if_pos (by omega)]
 ·rw [if_neg h]
  by_cases h2 : 0 <= k /\ k < (N : Int)
  ·rw [if_pos h2, if_pos (by omega)]
  ·rw [if_neg h2, if_neg (by omega)]

theorem l24_1_all {pg : Pg} {n m : TV} {N : Nat} (hN : N <= 64) : ∀ (r i : Nat) (H : Heap) (es : List (Int × TV)), i + r = N -> H[0]? = some (.mapS es es.length) -> CM es (oneM i) -> mass es = i ->
  ∃ es' H', den pg l24_1 [(0, n), (1, m), (6, .mp 0), (15, .i .i64 (N : Int)), (16, .i .i64 (i : Int))] H = some ⟨.exit 0, [(0, n), (1, m), (6, .mp 0), (15, .i .i64 (N : Int)), (16, .i .i64 (N : Int)), (17, .b false)], H'⟩ /\
   H'[0]? = some (.mapS es' es'.length) /\ CM es' (oneM N) /\ mass es' = N
 | 0, i, H, es, hi, h1, h2, h3 => by
  obtain rfl : i = N := by omega
  refine ⟨es, H, ?_, h1, h2, h3⟩
  rw [l24_1, den_loop]
  simp (disch := omega) [b24_0, Z0, Z1, Z2, Z3, Z4, Z5, Z6, Z7, Z8, Z9, Za, Zb, Zc, Zd, Ze, Zf, Zg, Zh, Zi, Zj, Zk, Zl, Zm, Zn, Zo, Zp, Zq, Zr, Zs, Zt, Zu, Zv, Zw, Zx, k_mv, Zy, Zz, ZA, ZB, ZC, ZD, ZE, ZF, ZG, ZH, ZI, ZJ, ZK, ZL, ZM, ZN, ZO, ZP, ZQ, ZR, ZS, ZT, ZU, ZV, ZW, ZX, ZY, ZZ, Y0, Y1, Y2, Y3, Y4, k_mn, k_mx, Y5, Y6, Y7, Y8, Y9, Ya, Yb, Yc, Yd, Ye, Yf, Yg, Yh, Dn.setLast, Dn.getLast, evalO, mapO, Dn.get, putE, Yi, Yj, Yk, Yl, TV.one, TV.isAgg, Dn.part, Ym, negb, at0, at1, at2, at3, at4, dT, dF, Yn, Option.bind_some, Option.map_some]
 | r + 1, i, H, es, hi, h1, h2, h3 => by
  have st := h2.set (pg := pg) (R := den pg) h1 (i : Int) 1
  have hc := h2.ins (i : Int) 1
  have hm := h2.mass_ins (i : Int) 1
  rw [oneM_succ] at hc
  have h0 : (oneM i (i : Int)).getD 0 = 0 := by unfold oneM; rw [if_neg (by omega)]; rfl
  rw [h0] at hm
  obtain ⟨es1, he1⟩ : ∃ es1, es1 = insS (i : Int) (.i .i64 ((1 : Nat) : Int)) es := ⟨_, rfl⟩
  rw [<- he1] at st hc hm
  have hlt := (List.getElem?_eq_some_iff.1 h1).1
  obtain ⟨es', H', r1, r2, r3, r4⟩ := l24_1_all (pg := pg) (n := n) (m := m) hN r (i + 1) (H.set 0 (.mapS es1 es1.length)) es1 (by omega) (by simp [hlt]) hc (by omega)
  refine ⟨es', H', ?_, r2, r3, r4⟩
  rw [<- r1]
  have dd : decide ((i : Int) < (N : Int)) = true := dT (by omega)
  have w2 : wrapR .i64 ((i : Int) + 1) = .i .i64 ((i + 1 : Nat) : Int) := by rw [<- Int.natCast_succ]; exact Yn (by omega)
  simp only [Int.natCast_one] at st
  generalize ((i + 1 : Nat) : Int) = j at *
  generalize H.set 0 (.mapS es1 es1.length) = K at *
  clear hlt r1 hi h1 h0 hm hc he1 h2 h3
  generalize (i : Int) = x at *
  generalize (N : Int) = y at *
  rw [l24_1, den_loop]
  simp (disch := omega) [l24_1, b24_0, Z0, Z1, Z2, Z3, Z4, Z5, Z6, Z7, Z8, Z9, Za, Zb, Zc, Zd, Ze, Zf, Zg, Zh, Zi, Zj, Zk, Zl, Zm, Zn, Zo, Zp, Zq, Zr, Zs, Zt, Zu, Zv, Zw, Zx, k_mv, Zy, Zz, ZA, ZB, ZC, ZD, ZE, ZF, ZG, ZH, ZI, ZJ, ZK, ZL, ZM, ZN, ZO, ZP, ZQ, ZR, ZS, ZT, ZU, ZV, ZW, ZX, ZY, ZZ, Y0, Y1, Y2, Y3, Y4, k_mn, k_mx, Y5, Y6, Y7, Y8, Y9, Ya, Yb, Yc, Yd, Ye, Yf, Yg, Yh, Dn.setLast, Dn.getLast, evalO, mapO, Dn.get, putE, Yi, Yj, Yk, Yl, TV.one, TV.isAgg, Dn.part, Ym, negb, at0, at1, at2, at3, at4, dT, dF, Yn, Option.bind_some, Option.map_some, dd, w2, st]

noncomputable def evenL (n m : Nat) : List PL := canP (pairsP n m 0 0 (oneM (n * m)))

theorem fn24 {pg : Pg} (hF : Free pg) (hQ : pg.Q 81 = some 2) {n m : Nat} (hn : 1 <= n /\ n <= 8) (hm : 1 <= m /\ m <= 8) : PFn pg 24 [.i .i64 (n : Int), .i .i64 (m : Int)] (.tup [LPv (evenL n m), .i .i64 0]) := by
 have h60 := call60 (pg := pg) hF (n : Int) (m : Int)
 have hs : sizesB (n : Int) (m : Int) = true := by unfold sizesB; exact dT (by omega)
 rw [hs] at h60
 have hNm : n * m <= 64 := Nat.mul_le_mul hn.2 hm.2
 have hN1 : 1 <= n * m := Nat.mul_le_mul hn.1 hm.1
 obtain ⟨es, H1, r1, r2, r3, r4⟩ := l24_1_all (pg := pg) (n := .i .i64 (n : Int)) (m := .i .i64 (m : Int)) hNm (n * m) 0 [.mapS [] 0] [] (by omega) rfl (by
  have : oneM 0 = fun _ => none := by funext k; unfold oneM; rw [if_neg (by omega)]
  rw [this]; exact CM.nil) rfl
 obtain ⟨H2, u1, u2, u3, u4⟩ := call57 hF (n := n) (m := m) (c := 0) (d := 0) r2 r3
 have hgd : ∀ k, (oneM (n * m) k).getD 0 ≠ 0 -> 0 <= k /\ k < ((n * m : Nat) : Int) := fun k hk => by
  unfold oneM at hk
  split at hk
  ·assumption
  ·exact absurd rfl hk
 obtain ⟨t, H3, v1, v2, v3⟩ := body56 hF hQ [] u2 (fun j hj => by simp at hj) (by simp) (by simp) hn hm (by omega) (by omega) (by omega) (fun s hs => by have := hgd s hs; omega) (by
  unfold oneM; rw [if_pos (by omega)]; decide)
 have v1' : callRun pg (den pg) .sh [.fn 56 [] [], .fn 84 [] [.ref (H1.length + 4) 0, .ref (H1.length + 2) 0, .ref (H1.length + 3) 0, .ref H1.length 0, .ref (H1.length + 1) 0]] H2 = some (t, H3) := v1
 obtain ⟨FN, hFN⟩ : ∃ FN, FN = TV.fn 84 [] [.ref (H1.length + 4) 0, .ref (H1.length + 2) 0, .ref (H1.length + 3) 0, .ref H1.length 0, .ref (H1.length + 1) 0] := ⟨_, rfl⟩
 rw [<- hFN] at v1' u1
 refine .inr ⟨hF.S _ _, .tup [t, .i .i64 0], H3, ?_, fin_two (by obtain ⟨rs, a, b, c, _⟩ := v2; exact ⟨rs, a, b, fun x hx => (c x hx).1⟩) 0⟩
 refine bodyRun_of (vs := [t, .i .i64 0]) (o := ⟨.ret, [(4, t), (5, .i .i64 0)], H3⟩) (d := d24) (show pg.F 24 = some d24 by rw [hF.F]; rfl) rfl ?_ (by simp) rfl
 rw [runC_go]
 show go pg (den pg) [.c c24] .normal [(0, .i .i64 (n : Int)), (1, .i .i64 (m : Int))] [] = _
 have w : wrapR .i64 ((n : Int) * (m : Int)) = .i .i64 ((n * m : Nat) : Int) := by rw [<- Int.natCast_mul]; exact Yn (by omega)
 simp only [Int.natCast_zero] at r1
 generalize ((n * m : Nat) : Int) = nm at *
 clear v1 v2 v3 hFN u2 u3 u4 r2 r3 r4 hgd hs hNm hN1
 generalize (n : Int) = n' at *
 generalize (m : Int) = m' at *
 have mk : dkc pg (den pg) .mkS [] [] = some (.mp 0, [.mapS [] 0]) := rfl
 simp (disch := omega) [c24, Z0, Z1, Z2, Z3, Z4, Z5, Z6, Z7, Z8, Z9, Za, Zb, Zc, Zd, Ze, Zf, Zg, Zh, Zi, Zj, Zk, Zl, Zm, Zn, Zo, Zp, Zq, Zr, Zs, Zt, Zu, Zv, Zw, Zx, k_mv, Zy, Zz, ZA, ZB, ZC, ZD, ZE, ZF, ZG, ZH, ZI, ZJ, ZK, ZL, ZM, ZN, ZO, ZP, ZQ, ZR, ZS, ZT, ZU, ZV, ZW, ZX, ZY, ZZ, Y0, Y1, Y2, Y3, Y4, k_mn, k_mx, Y5, Y6, Y7, Y8, Y9, Ya, Yb, Yc, Yd, Ye, Yf, Yg, Yh, Dn.setLast, Dn.getLast, evalO, mapO, Dn.get, putE, Yi, Yj, Yk, Yl, TV.one, TV.isAgg, Dn.part, Ym, negb, at0, at1, at2, at3, at4, dT, dF, Yn, Option.bind_some, Option.map_some, h60, mk, w, go_denK (c := l24_1) rfl, r1, u1, v1']

end Go.Proofs.Try.Dn

/-
 Pairs of dice with given ways: found by reckoning with lists.
-/

namespace Go.Proofs.Try.Dn
open Go.Dn

def Sim (g : Int -> Option Nat) (w : List Nat) : Prop := ∀ k : Int, (g k).getD 0 = if 0 <= k then w.getD k.toNat 0 else 0

def leastC (w : List Nat) : Option Nat := w.findIdx? fun x => decide (x ≠ 0)

theorem Sim.least {g : Int -> Option Nat} {w : List Nat} (h : Sim g w) : leastF g = (leastC w).map fun (n : Nat) => (n : Int) := by
 unfold leastC
 cases hl : w.findIdx? (fun x => decide (x ≠ 0)) with
 | none =>
  rw [List.findIdx?_eq_none_iff] at hl
  rw [Option.map_none]
  unfold leastF
  rw [dif_neg]
  rintro ⟨m, hm, _⟩
  rw [h] at hm
  split at hm
  ·rename_i h0
   rw [List.getD_eq_getElem?_getD] at hm
   cases hw : w[m.toNat]? with
   | none => rw [hw] at hm; exact hm rfl
   | some x =>
    rw [hw] at hm
    have := hl x (List.mem_of_getElem? hw)
    simp at this hm
    exact hm this
  ·exact hm rfl
 | some i =>
  rw [List.findIdx?_eq_some_iff_getElem] at hl
  obtain ⟨hi, h1, h2⟩ := hl
  rw [Option.map_some]
  refine leastF_some.2 ⟨?_, fun k hk => ?_⟩
  ·rw [h, if_pos (by omega), List.getD_eq_getElem?_getD, Int.toNat_natCast, List.getElem?_eq_getElem hi]
   simpa using h1
  ·rw [h] at hk
   split at hk
   ·rename_i h0
    apply Classical.byContradiction
    intro hlt
    have h3 := h2 k.toNat (by omega)
    rw [List.getD_eq_getElem?_getD, List.getElem?_eq_getElem (by omega)] at hk
    simp at h3 hk
    exact hk h3
   ·exact absurd rfl hk

def takesC (w : List Nat) (s : Int) : List Int -> Option (List Nat)
 | [] => some w
 | f :: l => if s + f < 0 \/ w.getD (s + f).toNat 0 = 0 then none else takesC (w.set (s + f).toNat (w.getD (s + f).toNat 0 - 1)) s l

theorem Sim.takes {s : Int} : ∀ {l : List Int} {g : Int -> Option Nat} {w : List Nat}, Sim g w -> match Dn.takes g s l, takesC w s l with
  | some g', some w' => Sim g' w'
  | none, none => True
  | _, _ => False
 | [], g, w, h => h
 | f :: l, g, w, h => by
  have h0 := h (s + f)
  by_cases hc : s + f < 0 \/ w.getD (s + f).toNat 0 = 0
  ·have hz : (g (s + f)).getD 0 = 0 := by
    rw [h0]; split
    ·rcases hc with hc | hc
     ·omega
     ·exact hc
    ·rfl
   simp only [Dn.takes, takesC]
   rw [if_pos hz, if_pos hc]
   trivial
  ·have hz : (g (s + f)).getD 0 = w.getD (s + f).toNat 0 := by rw [h0, if_pos (by omega)]
   simp only [Dn.takes, takesC]
   rw [if_neg (by rw [hz]; omega), if_neg hc]
   refine Sim.takes (l := l) fun k => ?_
   have hlt : (s + f).toNat < w.length := by
    apply Classical.byContradiction
    intro hge
    apply hc
    right
    rw [List.getD_eq_getElem?_getD, List.getElem?_eq_none (by omega)]; rfl
   unfold subM updM
   by_cases hk : k = s + f
   ·subst hk
    rw [if_pos rfl, if_pos (by omega), List.getD_eq_getElem?_getD, List.getElem?_set_self hlt, hz, Option.getD_some]
   ·rw [if_neg hk, h k]
    by_cases h1 : 0 <= k
    ·rw [if_pos h1, if_pos h1, List.getD_eq_getElem?_getD, List.getD_eq_getElem?_getD, List.getElem?_set_ne (by omega)]
    ·rw [if_neg h1, if_neg h1]

def growC (n m : Nat) (c d : Int) : Nat -> List Int -> List Int -> List Nat -> List PL
 | 0, _, _, _ => []
 | k + 1, a, b, w => match leastC w with
  | none => if a.length < n \/ b.length < m then [] else [(a, b)]
  | some l =>
   (if fits n a ((l : Int) - d) = true then match takesC w ((l : Int) - d) b with | some w' => growC n m c d k (a ++ [(l : Int) - d]) b w' | none => [] else []) ++
   (if fits m b ((l : Int) - c) = true then match takesC w ((l : Int) - c) a with | some w' => growC n m c d k a (b ++ [(l : Int) - c]) w' | none => [] else [])

theorem growC_eq (n m : Nat) (c d : Int) : ∀ (k : Nat) (a b : List Int) (g : Int -> Option Nat) (w : List Nat), Sim g w -> growP n m c d k a b g = growC n m c d k a b w
 | 0, _, _, _, _, _ => rfl
 | k + 1, a, b, g, w, h => by
  unfold growP growC
  rw [h.least]
  cases leastC w with
  | none => rfl
  | some l =>
   simp only [Option.map_some]
   have h1 := h.takes (s := (l : Int) - d) (l := b)
   have h2 := h.takes (s := (l : Int) - c) (l := a)
   congr 1
   ·split
    ·revert h1
     cases takes g ((l : Int) - d) b with
     | none => cases takesC w ((l : Int) - d) b with
      | none => intro _; rfl
      | some w' => exact fun h => h.elim
     | some g' => cases takesC w ((l : Int) - d) b with
      | none => exact fun h => h.elim
      | some w' => exact fun h => growC_eq n m c d k _ _ g' w' h
    ·rfl
   ·split
    ·revert h2
     cases takes g ((l : Int) - c) a with
     | none => cases takesC w ((l : Int) - c) a with
      | none => intro _; rfl
      | some w' => exact fun h => h.elim
     | some g' => cases takesC w ((l : Int) - c) a with
      | none => exact fun h => h.elim
      | some w' => exact fun h => growC_eq n m c d k _ _ g' w' h
    ·rfl

theorem pairsC_eq {n m : Nat} {c d : Int} {g : Int -> Option Nat} {w w' : List Nat} (h : Sim g w) (ht : takesC w c [d] = some w') : pairsP n m c d g = growC n m c d 1001 [c] [d] w' := by
 have h1 := h.takes (s := c) (l := [d])
 rw [ht] at h1
 unfold pairsP
 cases h2 : takes g c [d] with
 | none => rw [h2] at h1; exact h1.elim
 | some g' =>
  rw [h2] at h1
  simp only [takes] at h2
  split at h2
  ·cases h2
  ·simp only [Option.some.injEq] at h2
   rw [h2]
   exact growC_eq _ _ _ _ _ _ _ _ _ h1

def six : List Int := [1, 2, 3, 4, 5, 6]

theorem sim_six : Sim (fun k => posO (wn [six, six] k)) ((List.range 13).map fun (k : Nat) => wn [six, six] (k : Int)) := by
 intro k
 rw [posO_getD]
 by_cases h : 0 <= k
 ·rw [if_pos h, List.getD_eq_getElem?_getD, List.getElem?_map]
  by_cases h2 : k.toNat < 13
  ·rw [List.getElem?_range h2, Option.map_some, Option.getD_some, show ((k.toNat : Nat) : Int) = k by omega]
  ·rw [List.getElem?_eq_none (by rw [List.length_range]; omega), Option.map_none, Option.getD_none]
   apply Classical.byContradiction
   intro hn
   obtain ⟨f, hf, e, he, h3⟩ := wn2_ne.1 hn
   simp [six] at hf he
   omega
 ·rw [if_neg h]
  apply Classical.byContradiction
  intro hn
  obtain ⟨f, hf, e, he, h3⟩ := wn2_ne.1 hn
  simp [six] at hf he
  omega

theorem twins_six : (twinsL six six).length = 3 := by
 have ht : takesC ((List.range 13).map fun (k : Nat) => wn [six, six] (k : Int)) 1 [1] = some [0, 0, 0, 2, 3, 4, 5, 6, 5, 4, 3, 2, 1] := by decide
 show (canP (pairsP 6 6 1 1 fun k => posO (wn [six, six] k))).length = 3
 rw [pairsC_eq sim_six ht]
 kernel_rfl

theorem sim_one : Sim (oneM 4) [1, 1, 1, 1] := by
 intro k
 unfold oneM
 by_cases h : 0 <= k
 ·rw [if_pos h]
  by_cases h2 : k < ((4 : Nat) : Int)
  ·rw [if_pos ⟨h, h2⟩]
   have : k = 0 \/ k = 1 \/ k = 2 \/ k = 3 := by omega
   rcases this with rfl | rfl | rfl | rfl <;> rfl
  ·rw [if_neg (by omega), List.getD_eq_getElem?_getD, List.getElem?_eq_none (by simp only [List.length_cons, List.length_nil]; omega)]
 ·rw [if_neg h, if_neg (by omega)]; rfl

theorem even_two : (evenL 2 2).length = 2 := by
 have ht : takesC [1, 1, 1, 1] 0 [0] = some [0, 1, 1, 1] := by decide
 show (canP (pairsP 2 2 0 0 (oneM 4))).length = 2
 rw [pairsC_eq sim_one ht]
 kernel_rfl

end Go.Proofs.Try.Dn

