/-
  Dice: rows that are no dice: every function's answer; rows copied.
-/
import Derived.Test.YtijeefncmgjlpaaR7
set_option linter.unusedSimpArgs false
set_option linter.unusedVariables false

set_option maxHeartbeats 1000000
namespace Go.Proofs.Try.Dn
open Go.Dn

section
variable {pg : Pg} (hF : Free pg) {T : TV} {ls : List (List Int)} (hT : SSV T ls) (hl : ls.length <= 1000000) (hL : ∀ x ∈ ls, x.length <= 1000000) (h0 : chkD ls ≠ 0)
include hF hT hl hL h0

end

theorem SSV.cells' {T : TV} {ls : List (List Int)} (hT : SSV T ls) : T.cells = [T] := by
 rcases hT with ⟨rfl, _⟩ | ⟨b, es, rfl, _⟩ <;> rfl

theorem l54_1_all {pg : Pg} (hF : Free pg) {T : TV} {l : List (List Int)} (hT : SSV T l) (hl : l.length <= 9223372036854775807) (hL : ∀ x ∈ l, x.length <= 9223372036854775807) : ∀ (n i : Nat) (O : TV) (H : Heap), i + n = min l.length 7 -> (elR false).Own H O ((l.take i).map fun x => x.take 9) ->
  ∃ O' H' e, den pg l54_1 [(0, T), (3, O), (4, .i .i64 (i : Int))] H = some ⟨.exit 0, (0, T) :: (3, O') :: e, H'⟩ /\ (elR false).Own H' O' ((l.take 7).map fun x => x.take 9)
 | 0, i, O, H, hi, hO => by
  obtain rfl : i = min l.length 7 := by omega
  have htk : l.take (min l.length 7) = l.take 7 := by
   rcases Nat.lt_or_ge l.length 7 with h | h
   ·rw [show min l.length 7 = l.length by omega, List.take_length, List.take_of_length_le (by omega)]
   ·rw [show min l.length 7 = 7 by omega]
  rw [htk] at hO
  refine ⟨O, H, [(4, .i .i64 ((min l.length 7 : Nat) : Int)), (12, .b false)], ?_, hO⟩
  have ln := lnS hT
  by_cases h7 : l.length < 7
  ·have d0 : decide (((min l.length 7 : Nat) : Int) < (l.length : Int)) = false := dF (by omega)
   generalize ((min l.length 7 : Nat) : Int) = I at *
   generalize (l.length : Int) = M at *
   clear h7 hl
   rw [l54_1, den_loop]
   simp (disch := omega) [b54_0, Z0, Z1, Z2, Z3, Z4, Z5, Z6, Z7, Z8, Z9, Za, Zb, Zc, Zd, Ze, Zf, Zg, Zh, Zi, Zj, Zk, Zl, Zm, Zn, Zo, Zp, Zq, Zr, Zs, Zt, Zu, Zv, Zw, Zx, k_mv, Zy, Zz, ZA, ZB, ZC, ZD, ZE, ZF, ZG, ZH, ZI, ZJ, ZK, ZL, ZM, ZN, ZO, ZP, ZQ, ZR, ZS, ZT, ZU, ZV, ZW, ZX, ZY, ZZ, Y0, Y1, Y2, Y3, Y4, k_mn, k_mx, Y5, Y6, Y7, Y8, Y9, Ya, Yb, Yc, Yd, Ye, Yf, Yg, Yh, Dn.setLast, Dn.getLast, evalO, mapO, Dn.get, putE, Yi, Yj, Yk, Yl, TV.one, TV.isAgg, Dn.part, Ym, negb, at0, at1, at2, at3, at4, dT, dF, Yn, Option.bind_some, Option.map_some, ln, d0]
  ·by_cases h77 : l.length = 7
   ·have d0 : decide (((min l.length 7 : Nat) : Int) < (l.length : Int)) = false := dF (by omega)
    generalize ((min l.length 7 : Nat) : Int) = I at *
    generalize (l.length : Int) = M at *
    clear h7 hl h77
    rw [l54_1, den_loop]
    simp (disch := omega) [b54_0, Z0, Z1, Z2, Z3, Z4, Z5, Z6, Z7, Z8, Z9, Za, Zb, Zc, Zd, Ze, Zf, Zg, Zh, Zi, Zj, Zk, Zl, Zm, Zn, Zo, Zp, Zq, Zr, Zs, Zt, Zu, Zv, Zw, Zx, k_mv, Zy, Zz, ZA, ZB, ZC, ZD, ZE, ZF, ZG, ZH, ZI, ZJ, ZK, ZL, ZM, ZN, ZO, ZP, ZQ, ZR, ZS, ZT, ZU, ZV, ZW, ZX, ZY, ZZ, Y0, Y1, Y2, Y3, Y4, k_mn, k_mx, Y5, Y6, Y7, Y8, Y9, Ya, Yb, Yc, Yd, Ye, Yf, Yg, Yh, Dn.setLast, Dn.getLast, evalO, mapO, Dn.get, putE, Yi, Yj, Yk, Yl, TV.one, TV.isAgg, Dn.part, Ym, negb, at0, at1, at2, at3, at4, dT, dF, Yn, Option.bind_some, Option.map_some, ln, d0]
   ·have d0 : decide (((min l.length 7 : Nat) : Int) < (l.length : Int)) = true := dT (by omega)
    have d6 : decide (((min l.length 7 : Nat) : Int) <= 6) = false := dF (by omega)
    generalize ((min l.length 7 : Nat) : Int) = I at *
    generalize (l.length : Int) = M at *
    clear h7 hl h77
    rw [l54_1, den_loop]
    simp (disch := omega) [b54_0, Z0, Z1, Z2, Z3, Z4, Z5, Z6, Z7, Z8, Z9, Za, Zb, Zc, Zd, Ze, Zf, Zg, Zh, Zi, Zj, Zk, Zl, Zm, Zn, Zo, Zp, Zq, Zr, Zs, Zt, Zu, Zv, Zw, Zx, k_mv, Zy, Zz, ZA, ZB, ZC, ZD, ZE, ZF, ZG, ZH, ZI, ZJ, ZK, ZL, ZM, ZN, ZO, ZP, ZQ, ZR, ZS, ZT, ZU, ZV, ZW, ZX, ZY, ZZ, Y0, Y1, Y2, Y3, Y4, k_mn, k_mx, Y5, Y6, Y7, Y8, Y9, Ya, Yb, Yc, Yd, Ye, Yf, Yg, Yh, Dn.setLast, Dn.getLast, evalO, mapO, Dn.get, putE, Yi, Yj, Yk, Yl, TV.one, TV.isAgg, Dn.part, Ym, negb, at0, at1, at2, at3, at4, dT, dF, Yn, Option.bind_some, Option.map_some, ln, d0, d6]
 | n + 1, i, O, H, hi, hO => by
  have ln := lnS hT
  obtain ⟨v, hv⟩ : ∃ v, l[i]? = some v := ⟨_, List.getElem?_eq_getElem (by omega)⟩
  obtain ⟨p, a, p1, p2, p3⟩ := hT.ix (pg := pg) (R := den pg) hv H
  have c31 := call31 (pg := pg) hF p3 (hL v (List.mem_of_getElem? hv)) H
  obtain ⟨x, hx⟩ : ∃ x, x = v.take 9 := ⟨_, rfl⟩
  rw [<- hx] at c31
  have hc : (elI.lt false x).cells = [elI.lt false x] := by cases x <;> rfl
  have bs := k_bslC (pg := pg) (R := den pg) (El.lt_one elI false x) hc H
  obtain ⟨H1, hH1⟩ : ∃ H1, H1 = H ++ [AObj.cells [elI.lt false x] false] := ⟨_, rfl⟩
  rw [<- hH1] at bs
  have hO1 : (elR false).Own H1 O ((l.take i).map fun x => x.take 9) := hO.mono fun id hid => by rw [hH1, List.getElem?_append_left (hO.lt id hid)]
  have vx : (elR false).View H1 (.sl H.length 0 1 false 1 (some 1)) [x] := .inr (.inr ⟨H.length, 0, some 1, [elI.lt false x], false, rfl, by simp, by rw [hH1]; exact getLast _ _, by simp [elR], by simp [elR, El.flat]⟩)
  obtain ⟨O2, H2, q1, q2, -, -, -⟩ := El.app (bytes := 24) hO1 vx (by simp; omega)
  have es : (elR false).sz = 1 := rfl
  have ea : (elR false).ag = false := rfl
  rw [es, ea] at q1
  have htk : ((l.take i).map fun x => x.take 9) ++ [x] = (l.take (i + 1)).map fun x => x.take 9 := by
   rw [List.take_add_one, hv, List.map_append, hx]; rfl
  rw [htk] at q2
  obtain ⟨O', H', e, r1, r2⟩ := l54_1_all (pg := pg) hF hT hl hL n (i + 1) O2 H2 (by omega) q2
  refine ⟨O', H', e, Eq.trans ?_ r1, r2⟩
  have w2 : wrapR .i64 ((i : Int) + 1) = .i .i64 ((i + 1 : Nat) : Int) := by rw [<- Int.natCast_succ]; exact Yn (by omega)
  have dd : decide ((i : Int) < (l.length : Int)) = true := dT (by omega)
  have d6 : decide ((i : Int) <= 6) = true := dT (by omega)
  generalize ((i + 1 : Nat) : Int) = I2 at *
  generalize (i : Int) = I at *
  generalize (l.length : Int) = M at *
  generalize elI.lt false x = V at *
  generalize (TV.sl H.length 0 1 false 1 (some 1)) = W at *
  clear hi hl hH1 vx hO1 r1
  rw [l54_1, den_loop]
  simp (disch := omega) [l54_1, b54_0, Z0, Z1, Z2, Z3, Z4, Z5, Z6, Z7, Z8, Z9, Za, Zb, Zc, Zd, Ze, Zf, Zg, Zh, Zi, Zj, Zk, Zl, Zm, Zn, Zo, Zp, Zq, Zr, Zs, Zt, Zu, Zv, Zw, Zx, k_mv, Zy, Zz, ZA, ZB, ZC, ZD, ZE, ZF, ZG, ZH, ZI, ZJ, ZK, ZL, ZM, ZN, ZO, ZP, ZQ, ZR, ZS, ZT, ZU, ZV, ZW, ZX, ZY, ZZ, Y0, Y1, Y2, Y3, Y4, k_mn, k_mx, Y5, Y6, Y7, Y8, Y9, Ya, Yb, Yc, Yd, Ye, Yf, Yg, Yh, Dn.setLast, Dn.getLast, evalO, mapO, Dn.get, putE, Yi, Yj, Yk, Yl, TV.one, TV.isAgg, Dn.part, Ym, negb, at0, at1, at2, at3, at4, dT, dF, Yn, Option.bind_some, Option.map_some, ln, dd, d6, p1, p2, c31, bs, q1, w2]

theorem Own.fin8' (q : List Int) (H : Heap) : snap .fin H 8 (elI.lt false q) = some (elI.lt false q) := by
 cases q with
 | nil => rfl
 | cons x q =>
  rw [El.lt_ne (by simp)]
  show ((SM.flag .fin false).bind fun bo' => (mapO (snap .fin H 7) ((x :: q).map elI.val)).map fun es' => TV.bs bo' elI.sz es') = _
  have h1 : mapO (snap .fin H 7) ((x :: q).map elI.val) = some ((x :: q).map elI.val) := mapO_map (g := snap .fin H 7) (f := elI.val) (k := elI.val) fun a _ => by simp [elI, El.val, snap]
  rw [h1]; rfl

theorem ownR_fin {H : Heap} {t : TV} {l : List (List Int)} (h : (elR false).Own H t l) : snap .fin H 9 t = some ((elR false).lt false l) := by
 have hm : mapO (snap .fin H 8) (l.map (elR false).val) = some (l.map (elR false).val) := mapO_map (g := snap .fin H 8) (f := (elR false).val) (k := (elR false).val) (l := l) fun q _ => by
  rw [elR_val]
  exact (Own.fin8' q H)
 rcases h with ⟨rfl, rfl⟩ | ⟨h0, id, ag, c, rfl, h1, h2, h3⟩
 ·rfl
 ·rw [El.lt_ne h0, snap]
  simp only [reduceCtorEq, if_false, h1]
  rw [if_pos ⟨by omega, .inr rfl⟩, List.drop_zero, h3, (elR false).elems_flat, hm]
  rfl

theorem fn54 {pg : Pg} (hF : Free pg) {T : TV} {l : List (List Int)} (hT : SSV T l) (hl : l.length <= 9223372036854775807) (hL : ∀ x ∈ l, x.length <= 9223372036854775807) : PFn pg 54 [T] ((elR false).lt false ((l.take 7).map fun x => x.take 9)) := by
 obtain ⟨O, H, e, r1, r2⟩ := l54_1_all (pg := pg) hF hT hl hL (min l.length 7) 0 .nilsl [] (by omega) (.inl ⟨rfl, rfl⟩)
 simp only [Int.natCast_zero] at r1
 refine .inr ⟨hF.S _ _, O, H, body_of (x := .ret) (e := [(2, O)]) (d := d54) (by rw [hF.F]; rfl) rfl ?_ (.inl rfl) rfl, ownR_fin r2⟩
 simp (disch := omega) [d54, c54, zipE, Z0, Z1, Z2, Z3, Z4, Z5, Z6, Z7, Z8, Z9, Za, Zb, Zc, Zd, Ze, Zf, Zg, Zh, Zi, Zj, Zk, Zl, Zm, Zn, Zo, Zp, Zq, Zr, Zs, Zt, Zu, Zv, Zw, Zx, k_mv, Zy, Zz, ZA, ZB, ZC, ZD, ZE, ZF, ZG, ZH, ZI, ZJ, ZK, ZL, ZM, ZN, ZO, ZP, ZQ, ZR, ZS, ZT, ZU, ZV, ZW, ZX, ZY, ZZ, Y0, Y1, Y2, Y3, Y4, k_mn, k_mx, Y5, Y6, Y7, Y8, Y9, Ya, Yb, Yc, Yd, Ye, Yf, Yg, Yh, Dn.setLast, Dn.getLast, evalO, mapO, Dn.get, putE, Yi, Yj, Yk, Yl, TV.one, TV.isAgg, Dn.part, Ym, negb, at0, at1, at2, at3, at4, dT, dF, Yn, Option.bind_some, Option.map_some, go_denK (c := l54_1) rfl, r1]

end Go.Proofs.Try.Dn

