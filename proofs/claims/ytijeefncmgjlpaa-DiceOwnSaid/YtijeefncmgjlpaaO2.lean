/-
  Dice: results are new memory: the loops that write them over, and compare.
-/
import Derived.Test.YtijeefncmgjlpaaO0
import Derived.Test.YtijeefncmgjlpaaT8
import Derived.Test.YtijeefncmgjlpaaEm
set_option linter.unusedSimpArgs false
set_option linter.unusedVariables false

set_option maxHeartbeats 2000000
set_option maxRecDepth 100000
namespace Go.Proofs.Try.Dn
open Go.Dn

theorem k_bld2 {pg : Pg} {R : Rec} (a b : Int) (H : Heap) : dkc pg R (.build [.i .i64 0, .i .i64 0] [(0, 1), (1, 1)]) [.i .i64 a, .i .i64 b] H = some (.agg [.i .i64 a, .i .i64 b], H) := by
 show dk (.build [.i .i64 0, .i .i64 0] [(0, 1), (1, 1)]) [.i .i64 a, .i .i64 b] H = _
 simp [dk, fillP, put2, TV.cells, TV.one]

theorem l17_1_all {pg : Pg} {V3 V4 V6 V7 V8 V9 V11 V12 V13 T : TV} {n : Nat} (hn : n <= 100000) : ∀ (d i : Nat) (H : Heap), i + d = n -> Blk 2 H T n ->
  ∃ H', den pg l17_1 [(3, V3), (4, V4), (5, T), (6, V6), (7, V7), (8, V8), (9, V9), (11, V11), (12, V12), (13, V13), (14, .i .i64 (i : Int))] H =
   some ⟨.exit 0, [(3, V3), (4, V4), (5, T), (6, V6), (7, V7), (8, V8), (9, V9), (11, V11), (12, V12), (13, V13), (14, .i .i64 (n : Int)), (61, .b false)], H'⟩ /\ H'.length = H.length /\ ∀ j, T.idOf ≠ some j -> H'[j]? = H[j]?
 | 0, i, H, hd, hT => by
  obtain rfl : i = n := by omega
  have ln := hT.len H
  refine ⟨H, ?_, rfl, fun _ _ => rfl⟩
  rw [l17_1, den_loop]
  simp (disch := omega) [b17_0, Z0, Z1, Z2, Z3, Z4, Z5, Z6, Z7, Z8, Z9, Za, Zb, Zc, Zd, Ze, Zf, Zg, Zh, Zi, Zj, Zk, Zl, Zm, Zn, Zo, Zp, Zq, Zr, Zs, Zt, Zu, Zv, Zw, Zx, k_mv, Zy, Zz, ZA, ZB, ZC, ZD, ZE, ZF, ZG, ZH, ZI, ZJ, ZK, ZL, ZM, ZN, ZO, ZP, ZQ, ZR, ZS, ZT, ZU, ZV, ZW, ZX, ZY, ZZ, Y0, Y1, Y2, Y3, Y4, k_mn, k_mx, Y5, Y6, Y7, Y8, Y9, Ya, Yb, Yc, Yd, Ye, Yf, Yg, Yh, Dn.setLast, Dn.getLast, evalO, mapO, Dn.get, putE, Yi, Yj, Yk, Yl, TV.one, TV.isAgg, Dn.part, Ym, negb, at0, at1, at2, at3, at4, dT, dF, Yn, Option.bind_some, Option.map_some, ln]
 | d + 1, i, H, hd, hT => by
  have ln := hT.len H
  obtain ⟨p, H1, p1, p2, p3, p4, p5⟩ := hT.put (pg := pg) (R := den pg) (ag0 := true) (i := i) (by omega) (v := .agg [.i .i64 (-1), .i .i64 (-1)]) rfl rfl
  obtain ⟨H2, q1, q2, q3⟩ := l17_1_all (pg := pg) (V3 := V3) (V4 := V4) (V6 := V6) (V7 := V7) (V8 := V8) (V9 := V9) (V11 := V11) (V12 := V12) (V13 := V13) hn d (i + 1) H1 (by omega) p3
  refine ⟨H2, Eq.trans ?_ q1, by omega, fun j hj => by rw [q3 j hj, p5 j hj]⟩
  have e1 : decide ((i : Int) < (n : Int)) = true := dT (by omega)
  have e2 : wrapR .i64 ((i : Int) + 1) = .i .i64 ((i + 1 : Nat) : Int) := by rw [<- Int.natCast_succ]; exact Yn (by omega)
  have bld := fun K => k_bld2 (pg := pg) (R := den pg) (-1) (-1) K
  clear hT q1 q3 p3 p5
  generalize ((i + 1 : Nat) : Int) = i1 at *
  rw [l17_1, den_loop]
  simp (disch := omega) [l17_1, b17_0, Z0, Z1, Z2, Z3, Z4, Z5, Z6, Z7, Z8, Z9, Za, Zb, Zc, Zd, Ze, Zf, Zg, Zh, Zi, Zj, Zk, Zl, Zm, Zn, Zo, Zp, Zq, Zr, Zs, Zt, Zu, Zv, Zw, Zx, k_mv, Zy, Zz, ZA, ZB, ZC, ZD, ZE, ZF, ZG, ZH, ZI, ZJ, ZK, ZL, ZM, ZN, ZO, ZP, ZQ, ZR, ZS, ZT, ZU, ZV, ZW, ZX, ZY, ZZ, Y0, Y1, Y2, Y3, Y4, k_mn, k_mx, Y5, Y6, Y7, Y8, Y9, Ya, Yb, Yc, Yd, Ye, Yf, Yg, Yh, Dn.setLast, Dn.getLast, evalO, mapO, Dn.get, putE, Yi, Yj, Yk, Yl, TV.one, TV.isAgg, Dn.part, Ym, negb, at0, at1, at2, at3, at4, dT, dF, Yn, Option.bind_some, Option.map_some, ln, e1, e2, bld, p1, p2]

theorem NestD.mono2 {α : Type} {E : El α} {H H' : Heap} {out : TV} {ts : List {t : TV // t.one = true}} {ls : List (List α)} (h : NestD E H out ts ls) (hf : ∀ id, (out.idOf = some id \/ ∃ t ∈ ts, t.1.idOf = some id) -> H'[id]? = H[id]?) : NestD E H' out ts ls where
 own := h.own.mono fun id hid => hf id (.inl hid)
 len := h.len
 row i t l ht hl := by
  obtain ⟨h4, h5⟩ := h.row i t l ht hl
  exact ⟨h4.mono fun id hid => hf id (.inr ⟨t, List.mem_of_getElem? ht, hid⟩), h5⟩
 dis := h.dis

theorem l17_3_all {pg : Pg} {V3 V4 V6 V8 V9 V11 V12 V13 O : TV} {ts : List {t : TV // t.one = true}} {i N : Nat} (hN : N <= 1000) : ∀ (d j : Nat) (H : Heap) (ls : List (List Bool)) (l : List Bool), j + d = N -> NestD elB H O ts ls -> ls[i]? = some l -> l.length = N -> (∀ x ∈ ls, x.length <= 1000) ->
  ∃ H' ls', den pg l17_3 [(3, V3), (4, V4), (6, V6), (7, O), (8, V8), (9, V9), (11, V11), (12, V12), (13, V13), (15, .i .i64 (i : Int)), (16, .i .i64 (j : Int))] H =
   some ⟨.exit 4, [(3, V3), (4, V4), (6, V6), (7, O), (8, V8), (9, V9), (11, V11), (12, V12), (13, V13), (15, .i .i64 (i : Int)), (16, .i .i64 (N : Int)), (80, .b false)], H'⟩ /\ NestD elB H' O ts ls' /\ ls'.length = ls.length /\ (∀ x ∈ ls', x.length <= 1000) /\ H'.length = H.length /\ ∀ k, (∀ t ∈ ts, t.1.idOf ≠ some k) -> H'[k]? = H[k]?
 | 0, j, H, ls, l, hd, hT, hl, hlN, hB => by
  obtain rfl : j = N := by omega
  obtain ⟨p, t, ht, p1, p2, _⟩ := hT.at2 (pg := pg) (R := den pg) hl
  have hrow := (hT.row i t l ht hl).1
  have ln := hrow.view.lenK H
  rw [hlN] at ln
  refine ⟨H, ls, ?_, hT, rfl, hB, rfl, fun _ _ => rfl⟩
  rw [l17_3, den_loop]
  simp (disch := omega) [b17_2, Z0, Z1, Z2, Z3, Z4, Z5, Z6, Z7, Z8, Z9, Za, Zb, Zc, Zd, Ze, Zf, Zg, Zh, Zi, Zj, Zk, Zl, Zm, Zn, Zo, Zp, Zq, Zr, Zs, Zt, Zu, Zv, Zw, Zx, k_mv, Zy, Zz, ZA, ZB, ZC, ZD, ZE, ZF, ZG, ZH, ZI, ZJ, ZK, ZL, ZM, ZN, ZO, ZP, ZQ, ZR, ZS, ZT, ZU, ZV, ZW, ZX, ZY, ZZ, Y0, Y1, Y2, Y3, Y4, k_mn, k_mx, Y5, Y6, Y7, Y8, Y9, Ya, Yb, Yc, Yd, Ye, Yf, Yg, Yh, Dn.setLast, Dn.getLast, evalO, mapO, Dn.get, putE, Yi, Yj, Yk, Yl, TV.one, TV.isAgg, Dn.part, Ym, negb, at0, at1, at2, at3, at4, dT, dF, Yn, Option.bind_some, Option.map_some, p1, p2, ln]
 | d + 1, j, H, ls, l, hd, hT, hl, hlN, hB => by
  obtain ⟨p, t, ht, p1, p2, p3⟩ := hT.at2 (pg := pg) (R := den pg) hl
  have hrow := (hT.row i t l ht hl).1
  have ln := hrow.view.lenK H
  rw [hlN] at ln
  obtain ⟨x, hx⟩ : ∃ x, l[j]? = some x := ⟨_, List.getElem?_eq_getElem (by omega)⟩
  obtain ⟨q, q1, q2, q3⟩ := p3 j x hx
  obtain ⟨H1, s1, s2, s3, s4⟩ := q3 (!x)
  have hi : i < ls.length := (List.getElem?_eq_some_iff.1 hl).1
  obtain ⟨H2, ls', r1, r2, r3, r4, r5, r6⟩ := l17_3_all (pg := pg) (V3 := V3) (V4 := V4) (V6 := V6) (V8 := V8) (V9 := V9) (V11 := V11) (V12 := V12) (V13 := V13) hN d (j + 1) H1 (ls.set i (l.set j !x)) (l.set j !x) (by omega) s2 (List.getElem?_set_self hi) (by simp [hlN]) (fun y hy => by
   rcases List.mem_or_eq_of_mem_set hy with hy | rfl
   ·exact hB y hy
   ·simp; omega)
  refine ⟨H2, ls', Eq.trans ?_ r1, r2, by simpa using r3, r4, by omega, fun k hk => by rw [r6 k hk, s4 k (hk t (List.mem_of_getElem? ht))]⟩
  have e1 : decide ((j : Int) < (N : Int)) = true := dT (by omega)
  have e2 : wrapR .i64 ((j : Int) + 1) = .i .i64 ((j + 1 : Nat) : Int) := by rw [<- Int.natCast_succ]; exact Yn (by omega)
  have q1' : dkc pg (den pg) (.ixS 1 false) [t.1, .i .i64 (j : Int)] H = some (q, H) := q1
  have q2' : dkc pg (den pg) (.ld 1 false) [q] H = some (.b x, H) := q2
  have s1' : dkc pg (den pg) (.st 1) [q, .b (!x)] H = some (.undef, H1) := s1
  clear r1 r2 r3 r4 r5 r6 s1 s2 s3 s4 q3 p3 hT hl hB hrow q1 q2
  generalize t.1 = row at *
  generalize ((j + 1 : Nat) : Int) = j1 at *
  rw [l17_3, den_loop]
  simp (disch := omega) [l17_3, b17_2, Z0, Z1, Z2, Z3, Z4, Z5, Z6, Z7, Z8, Z9, Za, Zb, Zc, Zd, Ze, Zf, Zg, Zh, Zi, Zj, Zk, Zl, Zm, Zn, Zo, Zp, Zq, Zr, Zs, Zt, Zu, Zv, Zw, Zx, k_mv, Zy, Zz, ZA, ZB, ZC, ZD, ZE, ZF, ZG, ZH, ZI, ZJ, ZK, ZL, ZM, ZN, ZO, ZP, ZQ, ZR, ZS, ZT, ZU, ZV, ZW, ZX, ZY, ZZ, Y0, Y1, Y2, Y3, Y4, k_mn, k_mx, Y5, Y6, Y7, Y8, Y9, Ya, Yb, Yc, Yd, Ye, Yf, Yg, Yh, Dn.setLast, Dn.getLast, evalO, mapO, Dn.get, putE, Yi, Yj, Yk, Yl, TV.one, TV.isAgg, Dn.part, Ym, negb, at0, at1, at2, at3, at4, dT, dF, Yn, Option.bind_some, Option.map_some, p1, p2, ln, e1, e2, q1', q2', negb, s1']

theorem l17_5_all {pg : Pg} {V3 V4 V6 V8 V9 V11 V12 V13 O : TV} {ts : List {t : TV // t.one = true}} {N : Nat} (hN : N <= 1000) : ∀ (d i : Nat) (H : Heap) (ls : List (List Bool)), i + d = N -> NestD elB H O ts ls -> ls.length = N -> (∀ x ∈ ls, x.length <= 1000) ->
  ∃ H', den pg l17_5 [(3, V3), (4, V4), (6, V6), (7, O), (8, V8), (9, V9), (11, V11), (12, V12), (13, V13), (15, .i .i64 (i : Int))] H =
   some ⟨.exit 2, [(3, V3), (4, V4), (6, V6), (7, O), (8, V8), (9, V9), (11, V11), (12, V12), (13, V13), (15, .i .i64 (N : Int)), (71, .b false)], H'⟩ /\ H'.length = H.length /\ ∀ k, (∀ t ∈ ts, t.1.idOf ≠ some k) -> H'[k]? = H[k]?
 | 0, i, H, ls, hd, hT, hl, hB => by
  obtain rfl : i = N := by omega
  have ln := hT.own.view.lenK H
  rw [hT.len, hl] at ln
  refine ⟨H, ?_, rfl, fun _ _ => rfl⟩
  rw [l17_5, den_loop]
  simp (disch := omega) [b17_4, Z0, Z1, Z2, Z3, Z4, Z5, Z6, Z7, Z8, Z9, Za, Zb, Zc, Zd, Ze, Zf, Zg, Zh, Zi, Zj, Zk, Zl, Zm, Zn, Zo, Zp, Zq, Zr, Zs, Zt, Zu, Zv, Zw, Zx, k_mv, Zy, Zz, ZA, ZB, ZC, ZD, ZE, ZF, ZG, ZH, ZI, ZJ, ZK, ZL, ZM, ZN, ZO, ZP, ZQ, ZR, ZS, ZT, ZU, ZV, ZW, ZX, ZY, ZZ, Y0, Y1, Y2, Y3, Y4, k_mn, k_mx, Y5, Y6, Y7, Y8, Y9, Ya, Yb, Yc, Yd, Ye, Yf, Yg, Yh, Dn.setLast, Dn.getLast, evalO, mapO, Dn.get, putE, Yi, Yj, Yk, Yl, TV.one, TV.isAgg, Dn.part, Ym, negb, at0, at1, at2, at3, at4, dT, dF, Yn, Option.bind_some, Option.map_some, ln]
 | d + 1, i, H, ls, hd, hT, hl, hB => by
  have ln := hT.own.view.lenK H
  rw [hT.len, hl] at ln
  obtain ⟨l, hx⟩ : ∃ l, ls[i]? = some l := ⟨_, List.getElem?_eq_getElem (by omega)⟩
  obtain ⟨H1, ls1, r1, r2, r3, r4, r5, r6⟩ := l17_3_all (pg := pg) (V3 := V3) (V4 := V4) (V6 := V6) (V8 := V8) (V9 := V9) (V11 := V11) (V12 := V12) (V13 := V13) (hB l (List.mem_of_getElem? hx)) l.length 0 H ls l (by omega) hT hx rfl hB
  obtain ⟨H2, q1, q2, q3⟩ := l17_5_all (pg := pg) (V3 := V3) (V4 := V4) (V6 := V6) (V8 := V8) (V9 := V9) (V11 := V11) (V12 := V12) (V13 := V13) hN d (i + 1) H1 ls1 (by omega) r2 (by omega) r4
  refine ⟨H2, Eq.trans ?_ q1, by omega, fun k hk => by rw [q3 k hk, r6 k hk]⟩
  have e1 : decide ((i : Int) < (N : Int)) = true := dT (by omega)
  have e2 : wrapR .i64 ((i : Int) + 1) = .i .i64 ((i + 1 : Nat) : Int) := by rw [<- Int.natCast_succ]; exact Yn (by omega)
  simp only [Int.natCast_zero] at r1
  clear q1 q2 q3 r2 r3 r4 r5 r6 hT hB hx
  generalize ((i + 1 : Nat) : Int) = i1 at *
  rw [l17_5, den_loop]
  simp (disch := omega) [l17_5, b17_4, Z0, Z1, Z2, Z3, Z4, Z5, Z6, Z7, Z8, Z9, Za, Zb, Zc, Zd, Ze, Zf, Zg, Zh, Zi, Zj, Zk, Zl, Zm, Zn, Zo, Zp, Zq, Zr, Zs, Zt, Zu, Zv, Zw, Zx, k_mv, Zy, Zz, ZA, ZB, ZC, ZD, ZE, ZF, ZG, ZH, ZI, ZJ, ZK, ZL, ZM, ZN, ZO, ZP, ZQ, ZR, ZS, ZT, ZU, ZV, ZW, ZX, ZY, ZZ, Y0, Y1, Y2, Y3, Y4, k_mn, k_mx, Y5, Y6, Y7, Y8, Y9, Ya, Yb, Yc, Yd, Ye, Yf, Yg, Yh, Dn.setLast, Dn.getLast, evalO, mapO, Dn.get, putE, Yi, Yj, Yk, Yl, TV.one, TV.isAgg, Dn.part, Ym, negb, at0, at1, at2, at3, at4, dT, dF, Yn, Option.bind_some, Option.map_some, ln, e1, e2, go_denK (c := l17_3) rfl, r1]

theorem l17_7_all {pg : Pg} {V3 V4 V6 V8 V11 V12 V13 T : TV} {n : Nat} (hn : n <= 100000) : ∀ (d i : Nat) (H : Heap), i + d = n -> Blk 1 H T n ->
  ∃ H', den pg l17_7 [(3, V3), (4, V4), (6, V6), (8, V8), (9, T), (11, V11), (12, V12), (13, V13), (17, .i .i64 (i : Int))] H =
   some ⟨.exit 6, [(3, V3), (4, V4), (6, V6), (8, V8), (9, T), (11, V11), (12, V12), (13, V13), (17, .i .i64 (n : Int)), (100, .b false)], H'⟩ /\ H'.length = H.length /\ ∀ j, T.idOf ≠ some j -> H'[j]? = H[j]?
 | 0, i, H, hd, hT => by
  obtain rfl : i = n := by omega
  have ln := hT.len H
  refine ⟨H, ?_, rfl, fun _ _ => rfl⟩
  rw [l17_7, den_loop]
  simp (disch := omega) [b17_6, Z0, Z1, Z2, Z3, Z4, Z5, Z6, Z7, Z8, Z9, Za, Zb, Zc, Zd, Ze, Zf, Zg, Zh, Zi, Zj, Zk, Zl, Zm, Zn, Zo, Zp, Zq, Zr, Zs, Zt, Zu, Zv, Zw, Zx, k_mv, Zy, Zz, ZA, ZB, ZC, ZD, ZE, ZF, ZG, ZH, ZI, ZJ, ZK, ZL, ZM, ZN, ZO, ZP, ZQ, ZR, ZS, ZT, ZU, ZV, ZW, ZX, ZY, ZZ, Y0, Y1, Y2, Y3, Y4, k_mn, k_mx, Y5, Y6, Y7, Y8, Y9, Ya, Yb, Yc, Yd, Ye, Yf, Yg, Yh, Dn.setLast, Dn.getLast, evalO, mapO, Dn.get, putE, Yi, Yj, Yk, Yl, TV.one, TV.isAgg, Dn.part, Ym, negb, at0, at1, at2, at3, at4, dT, dF, Yn, Option.bind_some, Option.map_some, ln]
 | d + 1, i, H, hd, hT => by
  have ln := hT.len H
  obtain ⟨p, H1, p1, p2, p3, p4, p5⟩ := hT.put (pg := pg) (R := den pg) (ag0 := false) (i := i) (by omega) (v := .i .i64 (-1)) rfl rfl
  obtain ⟨H2, q1, q2, q3⟩ := l17_7_all (pg := pg) (V3 := V3) (V4 := V4) (V6 := V6) (V8 := V8) (V11 := V11) (V12 := V12) (V13 := V13) hn d (i + 1) H1 (by omega) p3
  refine ⟨H2, Eq.trans ?_ q1, by omega, fun j hj => by rw [q3 j hj, p5 j hj]⟩
  have e1 : decide ((i : Int) < (n : Int)) = true := dT (by omega)
  have e2 : wrapR .i64 ((i : Int) + 1) = .i .i64 ((i + 1 : Nat) : Int) := by rw [<- Int.natCast_succ]; exact Yn (by omega)
  clear hT q1 q3 p3 p5
  generalize ((i + 1 : Nat) : Int) = i1 at *
  rw [l17_7, den_loop]
  simp (disch := omega) [l17_7, b17_6, Z0, Z1, Z2, Z3, Z4, Z5, Z6, Z7, Z8, Z9, Za, Zb, Zc, Zd, Ze, Zf, Zg, Zh, Zi, Zj, Zk, Zl, Zm, Zn, Zo, Zp, Zq, Zr, Zs, Zt, Zu, Zv, Zw, Zx, k_mv, Zy, Zz, ZA, ZB, ZC, ZD, ZE, ZF, ZG, ZH, ZI, ZJ, ZK, ZL, ZM, ZN, ZO, ZP, ZQ, ZR, ZS, ZT, ZU, ZV, ZW, ZX, ZY, ZZ, Y0, Y1, Y2, Y3, Y4, k_mn, k_mx, Y5, Y6, Y7, Y8, Y9, Ya, Yb, Yc, Yd, Ye, Yf, Yg, Yh, Dn.setLast, Dn.getLast, evalO, mapO, Dn.get, putE, Yi, Yj, Yk, Yl, TV.one, TV.isAgg, Dn.part, Ym, negb, at0, at1, at2, at3, at4, dT, dF, Yn, Option.bind_some, Option.map_some, ln, e1, e2, p1, p2]

def RL (H : Heap) (W : TV) (rs : List RP) : Prop := ∀ x ∈ rs, W.idOf ≠ some x.ia /\ ∃ c ag, H[x.ia]? = some (.cells c ag) /\ x.v.1.length <= c.length

theorem RL.mono {H H' : Heap} {W : TV} {rs : List RP} (h : RL H W rs) (hf : ∀ x ∈ rs, H'[x.ia]? = H[x.ia]?) : RL H' W rs := fun x hx => by
 obtain ⟨a, c, ag, b, d⟩ := h x hx
 exact ⟨a, c, ag, (hf x hx).trans b, d⟩

theorem row_put {pg : Pg} {H : Heap} {W : TV} {rs : List RP} (hW : elRP.Own H W rs) (hR : RL H W rs) {x : RP} (hx : x ∈ rs) {j : Nat} (hj : j < x.v.1.length) :
  ∃ H', dkc pg (den pg) (.ixS 1 false) [.sl x.ia 0 1 false x.v.1.length none, .i .i64 (j : Int)] H = some (.ref x.ia j, H) /\ dkc pg (den pg) (.st 1) [.ref x.ia j, .i .i64 (-1)] H = some (.undef, H') /\ elRP.Own H' W rs /\ RL H' W rs := by
 obtain ⟨hne, c, ag, h1, h2⟩ := hR x hx
 have hlt := (List.getElem?_eq_some_iff.1 h1).1
 refine ⟨H.set x.ia (.cells (put2 c j [.i .i64 (-1)]) ag), ?_, ?_, hW.mono fun id hid => List.getElem?_set_ne fun e => hne (by rw [e]; exact hid), fun z hz => ?_⟩
 ·simp [dkc, dk, bound, hj]
 ·simp only [dkc, dk, h1, TV.cells]
  exact if_pos ⟨rfl, rfl, by omega⟩
 ·obtain ⟨zn, cz, az, z1, z2⟩ := hR z hz
  refine ⟨zn, ?_⟩
  by_cases e : z.ia = x.ia
  ·rw [e] at z1 ⊢
   rw [h1] at z1
   cases z1
   refine ⟨_, ag, List.getElem?_set_self hlt, ?_⟩
   simp only [put2, List.length_append, List.length_take, List.length_drop, List.length_singleton]
   omega
  ·exact ⟨cz, az, by rw [List.getElem?_set_ne (Ne.symm e)]; exact z1, z2⟩

theorem l17_9_all {pg : Pg} {V3 V4 V6 V8 V11 V13 W : TV} {rs : List RP} {i : Nat} {x : RP} (hx : rs[i]? = some x) (hN : x.v.1.length <= 1000000) : ∀ (d j : Nat) (H : Heap), j + d = x.v.1.length -> elRP.Own H W rs -> RL H W rs ->
  ∃ H', den pg l17_9 [(3, V3), (4, V4), (6, V6), (8, V8), (11, V11), (12, W), (13, V13), (18, .i .i64 (i : Int)), (19, .i .i64 (j : Int))] H =
   some ⟨.exit 10, [(3, V3), (4, V4), (6, V6), (8, V8), (11, V11), (12, W), (13, V13), (18, .i .i64 (i : Int)), (19, .i .i64 (x.v.1.length : Int)), (119, .b false)], H'⟩ /\ elRP.Own H' W rs /\ RL H' W rs
 | 0, j, H, hd, hW, hR => by
  obtain rfl : j = x.v.1.length := by omega
  obtain ⟨p, p1, p2, _⟩ := hW.view.ix (pg := pg) (R := den pg) hx .i64
  obtain ⟨q, q1, q2⟩ := p2.cell (pg := pg) (R := den pg) (j := 0) (v := .sl x.ia 0 1 false x.v.1.length none) rfl rfl .i64
  have p1' : dkc pg (den pg) (.ixS 2 true) [W, .i .i64 (i : Int)] H = some (p, H) := p1
  have q1' : dkc pg (den pg) (.ixA 2 1 false) [p, .i .i64 0] H = some (q, H) := q1
  have ln : lenK 0 (.sl x.ia 0 1 false x.v.1.length none) H = some x.v.1.length := rfl
  refine ⟨H, ?_, hW, hR⟩
  clear p1 q1 p2 hW hR hx
  generalize (TV.sl x.ia 0 1 false x.v.1.length none) = row at *
  rw [l17_9, den_loop]
  simp (disch := omega) [b17_8, Z0, Z1, Z2, Z3, Z4, Z5, Z6, Z7, Z8, Z9, Za, Zb, Zc, Zd, Ze, Zf, Zg, Zh, Zi, Zj, Zk, Zl, Zm, Zn, Zo, Zp, Zq, Zr, Zs, Zt, Zu, Zv, Zw, Zx, k_mv, Zy, Zz, ZA, ZB, ZC, ZD, ZE, ZF, ZG, ZH, ZI, ZJ, ZK, ZL, ZM, ZN, ZO, ZP, ZQ, ZR, ZS, ZT, ZU, ZV, ZW, ZX, ZY, ZZ, Y0, Y1, Y2, Y3, Y4, k_mn, k_mx, Y5, Y6, Y7, Y8, Y9, Ya, Yb, Yc, Yd, Ye, Yf, Yg, Yh, Dn.setLast, Dn.getLast, evalO, mapO, Dn.get, putE, Yi, Yj, Yk, Yl, TV.one, TV.isAgg, Dn.part, Ym, negb, at0, at1, at2, at3, at4, dT, dF, Yn, Option.bind_some, Option.map_some, p1', q1', q2, ln]
 | d + 1, j, H, hd, hW, hR => by
  obtain ⟨p, p1, p2, _⟩ := hW.view.ix (pg := pg) (R := den pg) hx .i64
  obtain ⟨q, q1, q2⟩ := p2.cell (pg := pg) (R := den pg) (j := 0) (v := .sl x.ia 0 1 false x.v.1.length none) rfl rfl .i64
  have p1' : dkc pg (den pg) (.ixS 2 true) [W, .i .i64 (i : Int)] H = some (p, H) := p1
  have q1' : dkc pg (den pg) (.ixA 2 1 false) [p, .i .i64 0] H = some (q, H) := q1
  have ln : lenK 0 (.sl x.ia 0 1 false x.v.1.length none) H = some x.v.1.length := rfl
  obtain ⟨H1, s1, s2, s3, s4⟩ := row_put (pg := pg) hW hR (List.mem_of_getElem? hx) (j := j) (by omega)
  obtain ⟨H2, r1, r2, r3⟩ := l17_9_all (pg := pg) (V3 := V3) (V4 := V4) (V6 := V6) (V8 := V8) (V11 := V11) (V13 := V13) hx hN d (j + 1) H1 (by omega) s3 s4
  refine ⟨H2, Eq.trans ?_ r1, r2, r3⟩
  have e1 : decide ((j : Int) < (x.v.1.length : Int)) = true := dT (by omega)
  have e2 : wrapR .i64 ((j : Int) + 1) = .i .i64 ((j + 1 : Nat) : Int) := by rw [<- Int.natCast_succ]; exact Yn (by omega)
  clear p1 q1 p2 hW hR hx r1 r2 r3 s3 s4
  generalize (TV.sl x.ia 0 1 false x.v.1.length none) = row at *
  generalize ((j + 1 : Nat) : Int) = j1 at *
  rw [l17_9, den_loop]
  simp (disch := omega) [l17_9, b17_8, Z0, Z1, Z2, Z3, Z4, Z5, Z6, Z7, Z8, Z9, Za, Zb, Zc, Zd, Ze, Zf, Zg, Zh, Zi, Zj, Zk, Zl, Zm, Zn, Zo, Zp, Zq, Zr, Zs, Zt, Zu, Zv, Zw, Zx, k_mv, Zy, Zz, ZA, ZB, ZC, ZD, ZE, ZF, ZG, ZH, ZI, ZJ, ZK, ZL, ZM, ZN, ZO, ZP, ZQ, ZR, ZS, ZT, ZU, ZV, ZW, ZX, ZY, ZZ, Y0, Y1, Y2, Y3, Y4, k_mn, k_mx, Y5, Y6, Y7, Y8, Y9, Ya, Yb, Yc, Yd, Ye, Yf, Yg, Yh, Dn.setLast, Dn.getLast, evalO, mapO, Dn.get, putE, Yi, Yj, Yk, Yl, TV.one, TV.isAgg, Dn.part, Ym, negb, at0, at1, at2, at3, at4, dT, dF, Yn, Option.bind_some, Option.map_some, p1', q1', q2, ln, e1, e2, s1, s2]

theorem l17_11_all {pg : Pg} {V3 V4 V6 V8 V11 V13 W : TV} {rs : List RP} (hN : rs.length <= 1000000) (hl : ∀ x ∈ rs, x.v.1.length <= 1000000) : ∀ (d i : Nat) (H : Heap), i + d = rs.length -> elRP.Own H W rs -> RL H W rs ->
  ∃ H', den pg l17_11 [(3, V3), (4, V4), (6, V6), (8, V8), (11, V11), (12, W), (13, V13), (18, .i .i64 (i : Int))] H =
   some ⟨.exit 8, [(3, V3), (4, V4), (6, V6), (8, V8), (11, V11), (12, W), (13, V13), (18, .i .i64 (rs.length : Int)), (109, .b false)], H'⟩
 | 0, i, H, hd, hW, hR => by
  obtain rfl : i = rs.length := by omega
  have ln := hW.view.lenK H
  refine ⟨H, ?_⟩
  generalize rs.length = N at *
  rw [l17_11, den_loop]
  simp (disch := omega) [b17_10, Z0, Z1, Z2, Z3, Z4, Z5, Z6, Z7, Z8, Z9, Za, Zb, Zc, Zd, Ze, Zf, Zg, Zh, Zi, Zj, Zk, Zl, Zm, Zn, Zo, Zp, Zq, Zr, Zs, Zt, Zu, Zv, Zw, Zx, k_mv, Zy, Zz, ZA, ZB, ZC, ZD, ZE, ZF, ZG, ZH, ZI, ZJ, ZK, ZL, ZM, ZN, ZO, ZP, ZQ, ZR, ZS, ZT, ZU, ZV, ZW, ZX, ZY, ZZ, Y0, Y1, Y2, Y3, Y4, k_mn, k_mx, Y5, Y6, Y7, Y8, Y9, Ya, Yb, Yc, Yd, Ye, Yf, Yg, Yh, Dn.setLast, Dn.getLast, evalO, mapO, Dn.get, putE, Yi, Yj, Yk, Yl, TV.one, TV.isAgg, Dn.part, Ym, negb, at0, at1, at2, at3, at4, dT, dF, Yn, Option.bind_some, Option.map_some, ln]
 | d + 1, i, H, hd, hW, hR => by
  have ln := hW.view.lenK H
  obtain ⟨x, hx⟩ : ∃ x, rs[i]? = some x := ⟨_, List.getElem?_eq_getElem (by omega)⟩
  obtain ⟨H1, r1, r2, r3⟩ := l17_9_all (pg := pg) (V3 := V3) (V4 := V4) (V6 := V6) (V8 := V8) (V11 := V11) (V13 := V13) hx (hl x (List.mem_of_getElem? hx)) x.v.1.length 0 H (by omega) hW hR
  obtain ⟨H2, q1⟩ := l17_11_all (pg := pg) (V3 := V3) (V4 := V4) (V6 := V6) (V8 := V8) (V11 := V11) (V13 := V13) hN hl d (i + 1) H1 (by omega) r2 r3
  refine ⟨H2, Eq.trans ?_ q1⟩
  have e1 : decide ((i : Int) < (rs.length : Int)) = true := dT (by omega)
  have e2 : wrapR .i64 ((i : Int) + 1) = .i .i64 ((i + 1 : Nat) : Int) := by rw [<- Int.natCast_succ]; exact Yn (by omega)
  simp only [Int.natCast_zero] at r1
  clear q1 r2 r3 hW hR hx
  generalize ((i + 1 : Nat) : Int) = i1 at *
  generalize rs.length = N at *
  rw [l17_11, den_loop]
  simp (disch := omega) [l17_11, b17_10, Z0, Z1, Z2, Z3, Z4, Z5, Z6, Z7, Z8, Z9, Za, Zb, Zc, Zd, Ze, Zf, Zg, Zh, Zi, Zj, Zk, Zl, Zm, Zn, Zo, Zp, Zq, Zr, Zs, Zt, Zu, Zv, Zw, Zx, k_mv, Zy, Zz, ZA, ZB, ZC, ZD, ZE, ZF, ZG, ZH, ZI, ZJ, ZK, ZL, ZM, ZN, ZO, ZP, ZQ, ZR, ZS, ZT, ZU, ZV, ZW, ZX, ZY, ZZ, Y0, Y1, Y2, Y3, Y4, k_mn, k_mx, Y5, Y6, Y7, Y8, Y9, Ya, Yb, Yc, Yd, Ye, Yf, Yg, Yh, Dn.setLast, Dn.getLast, evalO, mapO, Dn.get, putE, Yi, Yj, Yk, Yl, TV.one, TV.isAgg, Dn.part, Ym, negb, at0, at1, at2, at3, at4, dT, dF, Yn, Option.bind_some, Option.map_some, ln, e1, e2, go_denK (c := l17_9) rfl, r1]

theorem sv_snap {A : TV} {a : List Int} (h : SV A a) (hn : a ≠ []) (H : Heap) : snap .borrow H 9 A = some (elI.lt true a) := by
 rcases h with ⟨_, h⟩ | ⟨b, rfl⟩
 ·exact absurd h hn
 ·rw [show (9 : Nat) = 7 + 2 from rfl, snS_bsB, mapO_map (f := elI.val) (k := elI.val) (l := a) fun a _ => snS_i _ _ _ _ _, Option.map_some, El.lt_ne hn]
  rfl

theorem l17_13_all {pg : Pg} (hF : Free pg) {X V20 : TV} {ls : List (List Int)} (hX : SSV X ls) (hn : ls.length <= 1000) (hne : ∀ x ∈ ls, x ≠ [] /\ x.length <= 1000) {H : Heap} : ∀ (d k : Nat), k + d = ls.length ->
  ∃ e, den pg l17_13 [(3, X), (4, X), (20, V20), (22, .i .i64 (k : Int))] H = some ⟨.exit 12, e, H⟩ /\ get e 4 = some X /\ get e 20 = some V20
 | 0, k, hk => by
  obtain rfl : k = ls.length := by omega
  have ln := hX.len H
  refine ⟨[(3, X), (4, X), (20, V20), (22, .i .i64 (ls.length : Int)), (170, .b false)], ?_, rfl, rfl⟩
  generalize ls.length = N at *
  rw [l17_13, den_loop]
  simp (disch := omega) [b17_12, Z0, Z1, Z2, Z3, Z4, Z5, Z6, Z7, Z8, Z9, Za, Zb, Zc, Zd, Ze, Zf, Zg, Zh, Zi, Zj, Zk, Zl, Zm, Zn, Zo, Zp, Zq, Zr, Zs, Zt, Zu, Zv, Zw, Zx, k_mv, Zy, Zz, ZA, ZB, ZC, ZD, ZE, ZF, ZG, ZH, ZI, ZJ, ZK, ZL, ZM, ZN, ZO, ZP, ZQ, ZR, ZS, ZT, ZU, ZV, ZW, ZX, ZY, ZZ, Y0, Y1, Y2, Y3, Y4, k_mn, k_mx, Y5, Y6, Y7, Y8, Y9, Ya, Yb, Yc, Yd, Ye, Yf, Yg, Yh, Dn.setLast, Dn.getLast, evalO, mapO, Dn.get, putE, Yi, Yj, Yk, Yl, TV.one, TV.isAgg, Dn.part, Ym, negb, at0, at1, at2, at3, at4, dT, dF, Yn, Option.bind_some, Option.map_some, ln]
 | d + 1, k, hk => by
  have ln := hX.len H
  obtain ⟨x, hx⟩ : ∃ x, ls[k]? = some x := ⟨_, List.getElem?_eq_getElem (by omega)⟩
  obtain ⟨p, A, p1, p2, hA⟩ := hX.ix (pg := pg) (R := den pg) hx H
  have hx2 := hne x (List.mem_of_getElem? hx)
  have sA := sv_snap hA hx2.1 H
  have c48 := call48 (pg := pg) hF sA sA (by omega) (by omega)
  rw [decide_eq_true rfl] at c48
  obtain ⟨e, r1, r2⟩ := l17_13_all hF (V20 := V20) hX hn hne (H := H) d (k + 1) (by omega)
  refine ⟨e, Eq.trans ?_ r1, r2⟩
  have e1 : decide ((k : Int) < (ls.length : Int)) = true := dT (by omega)
  have e2 : wrapR .i64 ((k : Int) + 1) = .i .i64 ((k + 1 : Nat) : Int) := by rw [<- Int.natCast_succ]; exact Yn (by omega)
  clear r1 r2 hx hx2 sA hA hX hne
  generalize ((k + 1 : Nat) : Int) = k1 at *
  generalize ls.length = N at *
  rw [l17_13, den_loop]
  simp (disch := omega) [l17_13, b17_12, Z0, Z1, Z2, Z3, Z4, Z5, Z6, Z7, Z8, Z9, Za, Zb, Zc, Zd, Ze, Zf, Zg, Zh, Zi, Zj, Zk, Zl, Zm, Zn, Zo, Zp, Zq, Zr, Zs, Zt, Zu, Zv, Zw, Zx, k_mv, Zy, Zz, ZA, ZB, ZC, ZD, ZE, ZF, ZG, ZH, ZI, ZJ, ZK, ZL, ZM, ZN, ZO, ZP, ZQ, ZR, ZS, ZT, ZU, ZV, ZW, ZX, ZY, ZZ, Y0, Y1, Y2, Y3, Y4, k_mn, k_mx, Y5, Y6, Y7, Y8, Y9, Ya, Yb, Yc, Yd, Ye, Yf, Yg, Yh, Dn.setLast, Dn.getLast, evalO, mapO, Dn.get, putE, Yi, Yj, Yk, Yl, TV.one, TV.isAgg, Dn.part, Ym, negb, at0, at1, at2, at3, at4, dT, dF, Yn, Option.bind_some, Option.map_some, ln, e1, e2, p1, p2, c48, negb]

theorem eqQ_same {pg : Pg} {R : Rec} (x : Int × Int) (H : Heap) : dkc pg R (.eqA true [true, true]) [elQ.val x, elQ.val x] H = some (.b false, H) := by
 show dk (.eqA true [true, true]) [.agg [.i .i64 x.1, .i .i64 x.2], .agg [.i .i64 x.1, .i .i64 x.2]] H = _
 simp [dk, eqL, eqS, negb]

theorem l17_15_all {pg : Pg} {A B : TV} {l : List (Int × Int)} (hn : l.length <= 100000) {H : Heap} (hA : elQ.View H A l) (hB : elQ.View H B l) : ∀ (d k : Nat), k + d = l.length ->
  ∃ e, den pg l17_15 [(20, A), (23, B), (24, .i .i64 (k : Int))] H = some ⟨.exit 14, e, H⟩
 | 0, k, hk => by
  obtain rfl : k = l.length := by omega
  have ln := hA.lenK H
  refine ⟨[(20, A), (23, B), (24, .i .i64 (l.length : Int)), (188, .b false)], ?_⟩
  generalize l.length = N at *
  rw [l17_15, den_loop]
  simp (disch := omega) [b17_14, Z0, Z1, Z2, Z3, Z4, Z5, Z6, Z7, Z8, Z9, Za, Zb, Zc, Zd, Ze, Zf, Zg, Zh, Zi, Zj, Zk, Zl, Zm, Zn, Zo, Zp, Zq, Zr, Zs, Zt, Zu, Zv, Zw, Zx, k_mv, Zy, Zz, ZA, ZB, ZC, ZD, ZE, ZF, ZG, ZH, ZI, ZJ, ZK, ZL, ZM, ZN, ZO, ZP, ZQ, ZR, ZS, ZT, ZU, ZV, ZW, ZX, ZY, ZZ, Y0, Y1, Y2, Y3, Y4, k_mn, k_mx, Y5, Y6, Y7, Y8, Y9, Ya, Yb, Yc, Yd, Ye, Yf, Yg, Yh, Dn.setLast, Dn.getLast, evalO, mapO, Dn.get, putE, Yi, Yj, Yk, Yl, TV.one, TV.isAgg, Dn.part, Ym, negb, at0, at1, at2, at3, at4, dT, dF, Yn, Option.bind_some, Option.map_some, ln]
 | d + 1, k, hk => by
  have ln := hA.lenK H
  obtain ⟨x, hx⟩ : ∃ x, l[k]? = some x := ⟨_, List.getElem?_eq_getElem (by omega)⟩
  obtain ⟨p, p1, p2, _⟩ := hA.ix (pg := pg) (R := den pg) hx .i64
  obtain ⟨q, q1, q2, _⟩ := hB.ix (pg := pg) (R := den pg) hx .i64
  have p3 := p2.ld (pg := pg) (R := den pg)
  have q3 := q2.ld (pg := pg) (R := den pg)
  have p1' : dkc pg (den pg) (.ixS 2 true) [A, .i .i64 (k : Int)] H = some (p, H) := p1
  have q1' : dkc pg (den pg) (.ixS 2 true) [B, .i .i64 (k : Int)] H = some (q, H) := q1
  have p3' : dkc pg (den pg) (.ld 2 true) [p] H = some (elQ.val x, H) := p3
  have q3' : dkc pg (den pg) (.ld 2 true) [q] H = some (elQ.val x, H) := q3
  have eq := eqQ_same (pg := pg) (R := den pg) x H
  obtain ⟨e, r1⟩ := l17_15_all (pg := pg) hn hA hB d (k + 1) (by omega)
  refine ⟨e, Eq.trans ?_ r1⟩
  have e1 : decide ((k : Int) < (l.length : Int)) = true := dT (by omega)
  have e2 : wrapR .i64 ((k : Int) + 1) = .i .i64 ((k + 1 : Nat) : Int) := by rw [<- Int.natCast_succ]; exact Yn (by omega)
  clear r1 hx hA hB p1 q1 p2 q2 p3 q3
  generalize ((k + 1 : Nat) : Int) = k1 at *
  generalize elQ.val x = v at *
  generalize l.length = N at *
  rw [l17_15, den_loop]
  simp (disch := omega) [l17_15, b17_14, Z0, Z1, Z2, Z3, Z4, Z5, Z6, Z7, Z8, Z9, Za, Zb, Zc, Zd, Ze, Zf, Zg, Zh, Zi, Zj, Zk, Zl, Zm, Zn, Zo, Zp, Zq, Zr, Zs, Zt, Zu, Zv, Zw, Zx, k_mv, Zy, Zz, ZA, ZB, ZC, ZD, ZE, ZF, ZG, ZH, ZI, ZJ, ZK, ZL, ZM, ZN, ZO, ZP, ZQ, ZR, ZS, ZT, ZU, ZV, ZW, ZX, ZY, ZZ, Y0, Y1, Y2, Y3, Y4, k_mn, k_mx, Y5, Y6, Y7, Y8, Y9, Ya, Yb, Yc, Yd, Ye, Yf, Yg, Yh, Dn.setLast, Dn.getLast, evalO, mapO, Dn.get, putE, Yi, Yj, Yk, Yl, TV.one, TV.isAgg, Dn.part, Ym, negb, at0, at1, at2, at3, at4, dT, dF, Yn, Option.bind_some, Option.map_some, ln, e1, e2, p1', q1', p3', q3', eq]

end Go.Proofs.Try.Dn

