/-
  The place of a number in a list.
-/
import Derived.Test.YtijeefncmgjlpaaU1
import Derived.Test.YtijeefncmgjlpaaEb
set_option linter.unusedSimpArgs false
set_option linter.unusedVariables false

set_option maxHeartbeats 2000000
set_option maxRecDepth 100000
namespace Go.Proofs.Try.Dn
open Go.Dn

theorem l91_1_all {pg : Pg} {l : List Int} {x : Int} {k : Nat} (hx : l[k]? = some x) (hf : ∀ j y, j < k -> l[j]? = some y -> y ≠ x) (hl : l.length <= 1000000) : ∀ (r j : Nat), j + r = k ->
  den pg l91_1 [(0, elI.lt true l), (1, .i .i64 x), (7, .i .i64 (l.length : Int)), (8, .i .i64 (j : Int))] [] = some ⟨.ret, [(4, .i .i64 (k : Int))], []⟩
 | 0, j, hj => by
  obtain rfl : j = k := by omega
  have hlt := (List.getElem?_eq_some_iff.1 hx).1
  obtain ⟨p, p1, p2⟩ := ixIn (pg := pg) hx []
  have dd : decide ((j : Int) < (l.length : Int)) = true := dT (by omega)
  clear hf hl hx
  generalize elI.lt true l = L at *
  generalize (l.length : Int) = M at *
  generalize (j : Int) = J at *
  rw [l91_1, den_loop]
  simp (disch := omega) [l91_1, b91_0, Z0, Z1, Z2, Z3, Z4, Z5, Z6, Z7, Z8, Z9, Za, Zb, Zc, Zd, Ze, Zf, Zg, Zh, Zi, Zj, Zk, Zl, Zm, Zn, Zo, Zp, Zq, Zr, Zs, Zt, Zu, Zv, Zw, Zx, k_mv, Zy, Zz, ZA, ZB, ZC, ZD, ZE, ZF, ZG, ZH, ZI, ZJ, ZK, ZL, ZM, ZN, ZO, ZP, ZQ, ZR, ZS, ZT, ZU, ZV, ZW, ZX, ZY, ZZ, Y0, Y1, Y2, Y3, Y4, k_mn, k_mx, Y5, Y6, Y7, Y8, Y9, Ya, Yb, Yc, Yd, Ye, Yf, Yg, Yh, Dn.setLast, Dn.getLast, evalO, mapO, Dn.get, putE, Yi, Yj, Yk, Yl, TV.one, TV.isAgg, Dn.part, Ym, negb, at0, at1, at2, at3, at4, dT, dF, Yn, Option.bind_some, Option.map_some, dd, p1, p2]
 | r + 1, j, hj => by
  have hlt := (List.getElem?_eq_some_iff.1 hx).1
  obtain ⟨y, hy⟩ : ∃ y, l[j]? = some y := ⟨_, List.getElem?_eq_getElem (by omega)⟩
  have hne := hf j y (by omega) hy
  obtain ⟨p, p1, p2⟩ := ixIn (pg := pg) hy []
  have dd : decide ((j : Int) < (l.length : Int)) = true := dT (by omega)
  have w2 : wrapR .i64 ((j : Int) + 1) = .i .i64 ((j + 1 : Nat) : Int) := by rw [<- Int.natCast_succ]; exact Yn (by omega)
  have ih := l91_1_all (pg := pg) hx hf hl r (j + 1) (by omega)
  have hne' : ¬ x = y := fun e => hne e.symm
  rw [<- ih]
  clear ih hf hl hx hy hlt hne
  generalize elI.lt true l = L at *
  generalize (l.length : Int) = M at *
  generalize ((j + 1 : Nat) : Int) = J2 at *
  generalize (j : Int) = J at *
  conv => lhs; rw [l91_1, den_loop]
  simp (disch := omega) [l91_1, b91_0, Z0, Z1, Z2, Z3, Z4, Z5, Z6, Z7, Z8, Z9, Za, Zb, Zc, Zd, Ze, Zf, Zg, Zh, Zi, Zj, Zk, Zl, Zm, Zn, Zo, Zp, Zq, Zr, Zs, Zt, Zu, Zv, Zw, Zx, k_mv, Zy, Zz, ZA, ZB, ZC, ZD, ZE, ZF, ZG, ZH, ZI, ZJ, ZK, ZL, ZM, ZN, ZO, ZP, ZQ, ZR, ZS, ZT, ZU, ZV, ZW, ZX, ZY, ZZ, Y0, Y1, Y2, Y3, Y4, k_mn, k_mx, Y5, Y6, Y7, Y8, Y9, Ya, Yb, Yc, Yd, Ye, Yf, Yg, Yh, Dn.setLast, Dn.getLast, evalO, mapO, Dn.get, putE, Yi, Yj, Yk, Yl, TV.one, TV.isAgg, Dn.part, Ym, negb, at0, at1, at2, at3, at4, dT, dF, Yn, Option.bind_some, Option.map_some, dd, p1, p2, hne', w2]

theorem fn91 {pg : Pg} (hF : Free pg) {l : List Int} {x : Int} {k : Nat} (hx : l[k]? = some x) (hf : ∀ j y, j < k -> l[j]? = some y -> y ≠ x) (hl : l.length <= 1000000) : PFn pg 91 [elI.lt true l, .i .i64 x] (.i .i64 (k : Int)) := by
 have q := l91_1_all (pg := pg) hx hf hl k 0 (by omega)
 have ln := lnB elI true l
 refine .of1 (x := .ret) (e := [(4, .i .i64 (k : Int))]) (H' := []) (hF.S _ _) (d := d91) (by rw [hF.F]; rfl) rfl ?_ (.inl rfl) rfl (by simp [sn_i, sn_b, Yo, Yp, Yq, Yr, Ys, Yt, Yu, Yv, Yw, Yx, Yy, Yz, mapO, elems])
 simp only [Int.natCast_zero] at q
 clear hx hf
 generalize elI.lt true l = L at *
 generalize (l.length : Int) = M at *
 generalize (k : Int) = K at *
 simp (disch := omega) [d91, c91, zipE, Z0, Z1, Z2, Z3, Z4, Z5, Z6, Z7, Z8, Z9, Za, Zb, Zc, Zd, Ze, Zf, Zg, Zh, Zi, Zj, Zk, Zl, Zm, Zn, Zo, Zp, Zq, Zr, Zs, Zt, Zu, Zv, Zw, Zx, k_mv, Zy, Zz, ZA, ZB, ZC, ZD, ZE, ZF, ZG, ZH, ZI, ZJ, ZK, ZL, ZM, ZN, ZO, ZP, ZQ, ZR, ZS, ZT, ZU, ZV, ZW, ZX, ZY, ZZ, Y0, Y1, Y2, Y3, Y4, k_mn, k_mx, Y5, Y6, Y7, Y8, Y9, Ya, Yb, Yc, Yd, Ye, Yf, Yg, Yh, Dn.setLast, Dn.getLast, evalO, mapO, Dn.get, putE, Yi, Yj, Yk, Yl, TV.one, TV.isAgg, Dn.part, Ym, negb, at0, at1, at2, at3, at4, dT, dF, Yn, Option.bind_some, Option.map_some, ln, go_denK (c := l91_1) rfl, q]

end Go.Proofs.Try.Dn

/-
 Dice: a slice turned round in place.
-/

namespace Go.Proofs.Try.Dn
open Go.Dn

theorem ownAt {pg : Pg} {R : Rec} {H : Heap} {t : TV} {l : List Int} (h : elI.Own H t l) {i : Nat} {x : Int} (hx : l[i]? = some x) :
  ∃ p, dkc pg R (.ixS 1 false) [t, .i .i64 (i : Int)] H = some (p, H) /\ dkc pg R (.ld 1 false) [p] H = some (.i .i64 x, H) /\
   ∀ v : Int, ∃ H', dkc pg R (.st 1) [p, .i .i64 v] H = some (.undef, H') /\ elI.Own H' t (l.set i v) /\ H'.length = H.length /\ ∀ j, t.idOf ≠ some j -> H'[j]? = H[j]? := by
 obtain ⟨p, h1, h2⟩ := ixI (pg := pg) (R := R) h.view hx
 refine ⟨p, h1, h2, fun v => ?_⟩
 obtain ⟨p', H', h3, a1, a2, a3, a4⟩ := ownSet (pg := pg) (R := R) h (List.getElem?_eq_some_iff.1 hx).1 v
 rw [h1] at h3
 simp only [Option.some.injEq, Prod.mk.injEq, and_true] at h3
 subst h3
 exact ⟨H', a1, a2, a3, a4⟩

def swapTo (l : List Int) (i : Nat) : List Int := (List.range l.length).map fun j => if j < i \/ l.length <= j + i then l.getD (l.length - 1 - j) 0 else l.getD j 0

theorem swapTo_len (l : List Int) (i : Nat) : (swapTo l i).length = l.length := by simp [swapTo]
theorem swapTo_get {l : List Int} {i j : Nat} (hj : j < l.length) : (swapTo l i)[j]? = some (if j < i \/ l.length <= j + i then l.getD (l.length - 1 - j) 0 else l.getD j 0) := by
 unfold swapTo
 rw [List.getElem?_map, List.getElem?_range hj]; rfl
theorem swapTo_0 (l : List Int) : swapTo l 0 = l := by
 apply List.ext_getElem?
 intro j
 by_cases hj : j < l.length
 ·rw [swapTo_get hj, if_neg (by omega), List.getElem?_eq_getElem hj, List.getD, List.getElem?_eq_getElem hj]; rfl
 ·rw [List.getElem?_eq_none (by rw [swapTo_len]; omega), List.getElem?_eq_none (by omega)]
theorem swapTo_end {l : List Int} {i : Nat} (h : l.length <= i + i + 1) : swapTo l i = l.reverse := by
 apply List.ext_getElem?
 intro j
 by_cases hj : j < l.length
 ·rw [swapTo_get hj, List.getElem?_reverse hj, List.getElem?_eq_getElem (by omega)]
  congr 1
  have hd : ∀ k (hk : k < l.length), l.getD k 0 = l[k] := fun k hk => by rw [List.getD, List.getElem?_eq_getElem hk]; rfl
  by_cases hc : j < i \/ l.length <= j + i
  ·rw [if_pos hc, hd _ (by omega)]
  ·rw [if_neg hc, hd _ hj]
   have : j = l.length - 1 - j := by omega
   congr 1
 ·rw [List.getElem?_eq_none (by rw [swapTo_len]; omega), List.getElem?_eq_none (by simp; omega)]
theorem swapTo_step {l : List Int} {i : Nat} (h : i + i + 1 < l.length) : ((swapTo l i).set i (l.getD (l.length - 1 - i) 0)).set (l.length - 1 - i) (l.getD i 0) = swapTo l (i + 1) := by
 apply List.ext_getElem?
 intro j
 by_cases hj : j < l.length
 ·rw [swapTo_get hj]
  by_cases h1 : j = l.length - 1 - i
  ·subst h1
   rw [List.getElem?_set_self (by rw [List.length_set, swapTo_len]; omega), if_pos (by omega)]
   congr 2
   omega
  ·rw [List.getElem?_set_ne (by omega)]
   by_cases h2 : j = i
   ·subst h2
    rw [List.getElem?_set_self (by rw [swapTo_len]; omega), if_pos (by omega)]
   ·rw [List.getElem?_set_ne (by omega), swapTo_get hj]
    congr 1
    by_cases hc : j < i \/ l.length <= j + i
    ·rw [if_pos hc, if_pos (by omega)]
    ·rw [if_neg hc, if_neg (by omega)]
 ·rw [List.getElem?_eq_none (by rw [List.length_set, List.length_set, swapTo_len]; omega), List.getElem?_eq_none (by rw [swapTo_len]; omega)]

theorem l92_all {pg : Pg} {t : TV} {l : List Int} (hl : l.length <= 1000000) : ∀ (d i : Nat) (H : Heap), i + d = l.length / 2 -> elI.Own H t (swapTo l i) ->
  ∃ e H', den pg l92_1 [(0, t), (2, .i .i64 (i : Int)), (3, .i .i64 ((l.length : Int) - 1 - (i : Int)))] H = some ⟨.exit 0, e, H'⟩ /\ elI.Own H' t l.reverse /\ H'.length = H.length /\ ∀ j, t.idOf ≠ some j -> H'[j]? = H[j]?
 | 0, i, H, h, hq => by
  have e1 : ¬ ((i : Int) < (l.length : Int) - 1 - (i : Int)) := by omega
  rw [swapTo_end (by omega)] at hq
  refine ⟨[(0, t), (2, .i .i64 (i : Int)), (3, .i .i64 ((l.length : Int) - 1 - (i : Int))), (9, .b false)], H, ?_, hq, rfl, fun _ _ => rfl⟩
  rw [l92_1, den_loop]
  simp [b92_0, Z0, Z1, Z2, Z3, Z4, Z5, Z6, Z7, Z8, Z9, Za, Zb, Zc, Zd, Ze, Zf, Zg, Zh, Zi, Zj, Zk, Zl, Zm, Zn, Zo, Zp, Zq, Zr, Zs, Zt, Zu, Zv, Zw, Zx, k_mv, Zy, Zz, ZA, ZB, ZC, ZD, ZE, ZF, ZG, ZH, ZI, ZJ, ZK, ZL, ZM, ZN, ZO, ZP, ZQ, ZR, ZS, ZT, ZU, ZV, ZW, ZX, ZY, ZZ, Y0, Y1, Y2, Y3, Y4, k_mn, k_mx, Y5, Y6, Y7, Y8, Y9, Ya, Yb, Yc, Yd, Ye, Yf, Yg, Yh, Dn.setLast, Dn.getLast, evalO, mapO, Dn.get, putE, keepE, TV.one, TV.isAgg, Dn.part, e1]
 | d + 1, i, H, h, hq => by
  have hii : i + i + 1 < l.length := by omega
  have e1 : ((i : Int) < (l.length : Int) - 1 - (i : Int)) := by omega
  have hj : ((l.length : Int) - 1 - (i : Int)) = ((l.length - 1 - i : Nat) : Int) := by omega
  have e2 : wrapR .i64 ((i : Int) + 1) = .i .i64 ((i : Int) + 1) := Yn (by omega)
  have e3 : wrapR .i64 (((l.length - 1 - i : Nat) : Int) - 1) = .i .i64 ((l.length : Int) - 1 - ((i + 1 : Nat) : Int)) := by
   rw [show (((l.length - 1 - i : Nat) : Int) - 1) = (l.length : Int) - 1 - ((i + 1 : Nat) : Int) by omega]; exact Yn (by omega)
  have hgi : (swapTo l i)[i]? = some (l.getD i 0) := by rw [swapTo_get (by omega), if_neg (by omega)]
  have hgj : (swapTo l i)[l.length - 1 - i]? = some (l.getD (l.length - 1 - i) 0) := by rw [swapTo_get (by omega), if_neg (by omega)]
  obtain ⟨pi, a1, a2, a3⟩ := ownAt (pg := pg) (R := den pg) hq hgi
  obtain ⟨pj, b1, b2, _⟩ := ownAt (pg := pg) (R := den pg) hq hgj
  obtain ⟨H1, s1, q1, l1, f1⟩ := a3 (l.getD (l.length - 1 - i) 0)
  obtain ⟨pj', c1, _, c3⟩ := ownAt (pg := pg) (R := den pg) q1 (i := l.length - 1 - i) (x := l.getD (l.length - 1 - i) 0) (by rw [List.getElem?_set_ne (by omega)]; exact hgj)
  obtain ⟨H2, s2, q2, l2, f2⟩ := c3 (l.getD i 0)
  rw [swapTo_step hii] at q2
  obtain ⟨e, H3, h3, q3, l3, f3⟩ := l92_all (pg := pg) hl d (i + 1) H2 (by omega) q2
  refine ⟨e, H3, Eq.trans ?_ h3, q3, by omega, fun j hj => by rw [f3 j hj, f2 j hj, f1 j hj]⟩
  rw [hj] at e1 ⊢
  generalize l.getD (l.length - 1 - i) 0 = vj at *
  generalize l.getD i 0 = vi at *
  generalize ((l.length - 1 - i : Nat) : Int) = jj at *
  generalize (l.length : Int) - 1 - ((i + 1 : Nat) : Int) = jn at *
  rw [l92_1, den_loop]
  simp [l92_1, b92_0, Z0, Z1, Z2, Z3, Z4, Z5, Z6, Z7, Z8, Z9, Za, Zb, Zc, Zd, Ze, Zf, Zg, Zh, Zi, Zj, Zk, Zl, Zm, Zn, Zo, Zp, Zq, Zr, Zs, Zt, Zu, Zv, Zw, Zx, k_mv, Zy, Zz, ZA, ZB, ZC, ZD, ZE, ZF, ZG, ZH, ZI, ZJ, ZK, ZL, ZM, ZN, ZO, ZP, ZQ, ZR, ZS, ZT, ZU, ZV, ZW, ZX, ZY, ZZ, Y0, Y1, Y2, Y3, Y4, k_mn, k_mx, Y5, Y6, Y7, Y8, Y9, Ya, Yb, Yc, Yd, Ye, Yf, Yg, Yh, Dn.setLast, Dn.getLast, evalO, mapO, Dn.get, putE, keepE, TV.one, TV.isAgg, Dn.part, e1, e2, e3, a1, a2, b1, b2, s1, c1, s2]

theorem body92 {pg : Pg} (hF : Free pg) {t : TV} {l : List Int} {H : Heap} (hq : elI.Own H t l) (hl : l.length <= 1000000) : ∃ r H', bodyRun pg (den pg) 92 [t] H = some (r, H') /\ elI.Own H' t l.reverse /\ H'.length = H.length /\ ∀ j, t.idOf ≠ some j -> H'[j]? = H[j]? := by
 have hlen := hq.view.lenK
 have e2 : wrapR .i64 ((l.length : Int) - 1) = .i .i64 ((l.length : Int) - 1) := Yn (by omega)
 obtain ⟨e, H', h1, h2, h3, h4⟩ := l92_all (pg := pg) (t := t) hl (l.length / 2) 0 H (by omega) (by rw [swapTo_0]; exact hq)
 simp only [Int.natCast_zero, Int.sub_zero] at h1
 refine ⟨tupR [], H', body_ofs (x := .normal) (e := e) (vs := []) (d := d92) (by rw [hF.F]; rfl) rfl ?_ (.inr rfl) rfl, h2, h3, h4⟩
 simp [d92, c92, zipE, Z0, Z1, Z2, Z3, Z4, Z5, Z6, Z7, Z8, Z9, Za, Zb, Zc, Zd, Ze, Zf, Zg, Zh, Zi, Zj, Zk, Zl, Zm, Zn, Zo, Zp, Zq, Zr, Zs, Zt, Zu, Zv, Zw, Zx, k_mv, Zy, Zz, ZA, ZB, ZC, ZD, ZE, ZF, ZG, ZH, ZI, ZJ, ZK, ZL, ZM, ZN, ZO, ZP, ZQ, ZR, ZS, ZT, ZU, ZV, ZW, ZX, ZY, ZZ, Y0, Y1, Y2, Y3, Y4, k_mn, k_mx, Y5, Y6, Y7, Y8, Y9, Ya, Yb, Yc, Yd, Ye, Yf, Yg, Yh, Dn.setLast, Dn.getLast, evalO, mapO, Dn.get, putE, keepE, TV.one, TV.isAgg, Dn.part, hlen, e2, go_denK (c := l92_1) rfl, h1]

end Go.Proofs.Try.Dn

