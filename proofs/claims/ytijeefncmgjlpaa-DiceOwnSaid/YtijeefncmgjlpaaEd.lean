/-
  Pairs of dice with given ways: what is taken away from the ways, and given back.
-/
import Derived.Test.YtijeefncmgjlpaaEc
set_option linter.unusedSimpArgs false
set_option linter.unusedVariables false

namespace Go.Proofs.Try.Dn
open Go.Dn

def subM (g : Int -> Option Nat) (k : Int) : Int -> Option Nat := updM g k ((g k).getD 0 - 1)

def takes (g : Int -> Option Nat) (s : Int) : List Int -> Option (Int -> Option Nat)
 | [] => some g
 | f :: l => if (g (s + f)).getD 0 = 0 then none else takes (subM g (s + f)) s l

theorem sub_add {g : Int -> Option Nat} {k : Int} (h : (g k).getD 0 ≠ 0) : addM (subM g k) k 1 = g := by
 funext j
 rw [addM_at]
 unfold subM updM
 by_cases hj : j = k
 ·subst hj
  rw [if_pos rfl, if_pos rfl]
  cases hg : g j with
  | none => rw [hg] at h; exact absurd rfl h
  | some n =>
   rw [hg] at h
   have : n ≠ 0 := h
   simp only [Option.getD_some]
   congr 1
   omega
 ·rw [if_neg hj, if_neg hj]

theorem takes_give (s : Int) : ∀ (l : List Int) {g g' : Int -> Option Nat}, takes g s l = some g' -> addF g' s 1 l = g
 | [], g, g', h => by cases h; rfl
 | f :: l, g, g', h => by
  unfold takes at h
  split at h
  ·cases h
  ·rename_i h0
   rw [addF_cons, addF_addM, takes_give s l h, sub_add h0]

theorem takes_snoc (s : Int) (f : Int) : ∀ (l : List Int) (g : Int -> Option Nat), takes g s (l ++ [f]) = (takes g s l).bind fun g' => if (g' (s + f)).getD 0 = 0 then none else some (subM g' (s + f))
 | [], g => rfl
 | x :: l, g => by
  rw [List.cons_append]
  unfold takes
  split
  ·rfl
  ·exact takes_snoc s f l _

theorem takes_more (s : Int) : ∀ (l m : List Int) (g : Int -> Option Nat), takes g s l = none -> takes g s (l ++ m) = none
 | [], m, g, h => by cases h
 | x :: l, m, g, h => by
  rw [List.cons_append]
  unfold takes at h ⊢
  split at h
  ·rename_i h0; rw [if_pos h0]
  ·rename_i h0; rw [if_neg h0]; exact takes_more s l m _ h

structure Lft (H : Heap) (rL lid : Nat) (es : List (Int × TV)) (g : Int -> Option Nat) : Prop where
 box : H[rL]? = some (.cells [.mp lid] false)
 obj : H[lid]? = some (.mapS es es.length)
 cm : CM es g

theorem Lft.put {H : Heap} {rL lid : Nat} {es es' : List (Int × TV)} {g g' : Int -> Option Nat} (h : Lft H rL lid es g) (hc : CM es' g') : Lft (H.set lid (.mapS es' es'.length)) rL lid es' g' where
 box := by
  have hne : lid ≠ rL := by
   rintro rfl
   have h1 := h.box
   rw [h.obj] at h1
   cases h1
  rw [List.getElem?_set_ne hne]; exact h.box
 obj := by rw [List.getElem?_set_self (List.getElem?_eq_some_iff.1 h.obj).1]
 cm := hc

theorem Lft.view {H : Heap} {rL lid : Nat} {es : List (Int × TV)} {g : Int -> Option Nat} (h : Lft H rL lid es g) {t : TV} {l : List Int} (hv : elI.View H t l) (o : AObj) : elI.View (H.set lid o) t l := by
 rcases hv with hv | hv | ⟨id, off, cap, c, ag, rfl, h0, h1, h2⟩
 ·exact .inl hv
 ·exact .inr (.inl hv)
 ·have hne : lid ≠ id := by
   rintro rfl
   rw [h.obj] at h1
   cases h1
  exact .inr (.inr ⟨id, off, cap, c, ag, rfl, h0, by rw [List.getElem?_set_ne hne]; exact h1, h2⟩)

theorem l86_1_all {pg : Pg} {T : TV} {d : List Int} (hd : d.length <= 1000) (hf : ∀ f ∈ d, 0 <= f /\ f <= 1000) {s : Int} (hs : 0 <= s /\ s <= 1000000) {rL lid : Nat} :
  ∀ (r j : Nat) (H : Heap) (es : List (Int × TV)) (g : Int -> Option Nat), j + r = d.length -> elI.View H T d -> Lft H rL lid es g -> mass es + r <= 4611686018427387904 ->
  ∃ es' v, den pg l86_1 [(0, .i .i64 s), (2, .ref rL 0), (7, T), (8, .i .i64 (d.length : Int)), (9, .i .i64 (j : Int))] H =
   some ⟨.exit 0, [(0, .i .i64 s), (2, .ref rL 0), (7, T), (8, .i .i64 (d.length : Int)), (9, .i .i64 (d.length : Int)), (10, v)], H.set lid (.mapS es' es'.length)⟩ /\ CM es' (addF g s 1 (d.drop j)) /\ mass es' = mass es + r
 | 0, j, H, es, g, hj, hT, hc, hm => by
  obtain rfl : j = d.length := by omega
  rw [List.drop_length]
  refine ⟨es, .b false, ?_, hc.cm, rfl⟩
  rw [set_same hc.obj, l86_1, den_loop]
  simp (disch := omega) [b86_0, Z0, Z1, Z2, Z3, Z4, Z5, Z6, Z7, Z8, Z9, Za, Zb, Zc, Zd, Ze, Zf, Zg, Zh, Zi, Zj, Zk, Zl, Zm, Zn, Zo, Zp, Zq, Zr, Zs, Zt, Zu, Zv, Zw, Zx, k_mv, Zy, Zz, ZA, ZB, ZC, ZD, ZE, ZF, ZG, ZH, ZI, ZJ, ZK, ZL, ZM, ZN, ZO, ZP, ZQ, ZR, ZS, ZT, ZU, ZV, ZW, ZX, ZY, ZZ, Y0, Y1, Y2, Y3, Y4, k_mn, k_mx, Y5, Y6, Y7, Y8, Y9, Ya, Yb, Yc, Yd, Ye, Yf, Yg, Yh, Dn.setLast, Dn.getLast, evalO, mapO, Dn.get, putE, Yi, Yj, Yk, Yl, TV.one, TV.isAgg, Dn.part, Ym, negb, at0, at1, at2, at3, at4, dT, dF, Yn, Option.bind_some, Option.map_some]
 | r + 1, j, H, es, g, hj, hT, hc, hm => by
  obtain ⟨f, hfj⟩ : ∃ f, d[j]? = some f := ⟨_, List.getElem?_eq_getElem (by omega)⟩
  have hfb := hf f (List.mem_of_getElem? hfj)
  have hdr : d.drop j = f :: d.drop (j + 1) := by
   obtain ⟨h1, rfl⟩ := List.getElem?_eq_some_iff.1 hfj
   exact List.drop_eq_getElem_cons h1
  have hle := hc.cm.le_mass (s + f)
  obtain ⟨q, q1, q2⟩ := ixI (pg := pg) (R := den pg) hT hfj
  have ld := ld_box (pg := pg) (R := den pg) hc.box rfl
  rw [ZL] at ld
  have lk := hc.cm.lk (pg := pg) (R := den pg) hc.obj (s + f)
  have st := hc.cm.set (pg := pg) (R := den pg) hc.obj (s + f) ((g (s + f)).getD 0 + 1)
  have hc2 : CM (insS (s + f) (.i .i64 (((g (s + f)).getD 0 + 1 : Nat) : Int)) es) (addM g (s + f) 1) := hc.cm.ins _ _
  have hm2 := hc.cm.mass_ins (s + f) ((g (s + f)).getD 0 + 1)
  obtain ⟨es1, he1⟩ : ∃ es1, es1 = insS (s + f) (.i .i64 (((g (s + f)).getD 0 + 1 : Nat) : Int)) es := ⟨_, rfl⟩
  rw [<- he1] at st hc2 hm2
  obtain ⟨es', v, r1, r2, r3⟩ := l86_1_all (pg := pg) hd hf hs r (j + 1) (H.set lid (.mapS es1 es1.length)) es1 (addM g (s + f) 1) (by omega) (hc.view hT _) (hc.put hc2) (by omega)
  rw [List.set_set] at r1
  refine ⟨es', v, Eq.trans ?_ r1, by rw [hdr, addF_cons]; exact r2, by omega⟩
  generalize (g (s + f)).getD 0 = w at *
  have wv : wrapR .i64 ((w : Int) + 1) = .i .i64 ((w + 1 : Nat) : Int) := by rw [<- Int.natCast_succ]; exact Yn (by omega)
  generalize H.set lid (.mapS es1 es1.length) = K1 at *
  obtain ⟨N, hN⟩ : ∃ N, N = d.length := ⟨_, rfl⟩
  rw [<- hN] at hj ⊢
  have dj : decide ((j : Int) < (N : Int)) = true := dT (by omega)
  generalize ((w + 1 : Nat) : Int) = wn at *
  rw [l86_1, den_loop]
  simp (disch := omega) [l86_1, b86_0, Z0, Z1, Z2, Z3, Z4, Z5, Z6, Z7, Z8, Z9, Za, Zb, Zc, Zd, Ze, Zf, Zg, Zh, Zi, Zj, Zk, Zl, Zm, Zn, Zo, Zp, Zq, Zr, Zs, Zt, Zu, Zv, Zw, Zx, k_mv, Zy, Zz, ZA, ZB, ZC, ZD, ZE, ZF, ZG, ZH, ZI, ZJ, ZK, ZL, ZM, ZN, ZO, ZP, ZQ, ZR, ZS, ZT, ZU, ZV, ZW, ZX, ZY, ZZ, Y0, Y1, Y2, Y3, Y4, k_mn, k_mx, Y5, Y6, Y7, Y8, Y9, Ya, Yb, Yc, Yd, Ye, Yf, Yg, Yh, Dn.setLast, Dn.getLast, evalO, mapO, Dn.get, putE, Yi, Yj, Yk, Yl, TV.one, TV.isAgg, Dn.part, Ym, negb, at0, at1, at2, at3, at4, dT, dF, Yn, Option.bind_some, Option.map_some, dj, q1, q2, ld, lk, wv, st]

theorem body86 {pg : Pg} (hF : Free pg) {T : TV} {d : List Int} (hd : d.length <= 1000) (hf : ∀ f ∈ d, 0 <= f /\ f <= 1000) {s : Int} (hs : 0 <= s /\ s <= 1000000) {rL lid : Nat} {H : Heap} {es : List (Int × TV)} {g : Int -> Option Nat} (hT : elI.View H T d) (hc : Lft H rL lid es g) (hm : mass es + d.length <= 4611686018427387904) :
  ∃ es', bodyRun pg (den pg) 86 [.i .i64 s, T, .ref rL 0] H = some (.tup [], H.set lid (.mapS es' es'.length)) /\ CM es' (addF g s 1 d) /\ mass es' = mass es + d.length := by
 have ln := hT.lenK
 obtain ⟨es', v, r1, r2, r3⟩ := l86_1_all (pg := pg) hd hf hs (rL := rL) d.length 0 H es g (by omega) hT hc hm
 rw [List.drop_zero] at r2
 refine ⟨es', ?_, r2, r3⟩
 simp only [Int.natCast_zero] at r1
 obtain ⟨N, hN⟩ : ∃ N, N = d.length := ⟨_, rfl⟩
 rw [<- hN] at r1 ln
 generalize H.set lid (.mapS es' es'.length) = K at *
 refine bodyRun_of (vs := []) (o := ⟨.normal, [(0, .i .i64 s), (2, .ref rL 0), (7, T), (8, .i .i64 (N : Int)), (9, .i .i64 (N : Int)), (10, v)], K⟩) (d := d86) (by rw [hF.F]; rfl) rfl ?_ (by simp) rfl
 rw [runC_go]
 simp (disch := omega) [d86, c86, zipE, Z0, Z1, Z2, Z3, Z4, Z5, Z6, Z7, Z8, Z9, Za, Zb, Zc, Zd, Ze, Zf, Zg, Zh, Zi, Zj, Zk, Zl, Zm, Zn, Zo, Zp, Zq, Zr, Zs, Zt, Zu, Zv, Zw, Zx, k_mv, Zy, Zz, ZA, ZB, ZC, ZD, ZE, ZF, ZG, ZH, ZI, ZJ, ZK, ZL, ZM, ZN, ZO, ZP, ZQ, ZR, ZS, ZT, ZU, ZV, ZW, ZX, ZY, ZZ, Y0, Y1, Y2, Y3, Y4, k_mn, k_mx, Y5, Y6, Y7, Y8, Y9, Ya, Yb, Yc, Yd, Ye, Yf, Yg, Yh, Dn.setLast, Dn.getLast, evalO, mapO, Dn.get, putE, Yi, Yj, Yk, Yl, TV.one, TV.isAgg, Dn.part, Ym, negb, at0, at1, at2, at3, at4, dT, dF, Yn, Option.bind_some, Option.map_some, ln, go_denK (c := l86_1) rfl, r1]

end Go.Proofs.Try.Dn

/-
 Pairs of dice with given ways: taking a face's sums away.
-/

namespace Go.Proofs.Try.Dn
open Go.Dn

theorem l85_1_all {pg : Pg} {T : TV} {d : List Int} (hd : d.length <= 1000) (hf : ∀ f ∈ d, 0 <= f /\ f <= 1000) {s : Int} (hs : 0 <= s /\ s <= 1000000) {rL lid : Nat} :
  ∀ (r j : Nat) (H : Heap) (es : List (Int × TV)) (g : Int -> Option Nat), j + r = d.length -> elI.View H T d -> Lft H rL lid es g -> mass es + r <= 4611686018427387904 ->
  ∃ es' v, den pg l85_1 [(0, .i .i64 s), (2, .ref rL 0), (25, T), (26, .i .i64 (d.length : Int)), (27, .i .i64 (j : Int))] H =
   some ⟨.exit 2, [(0, .i .i64 s), (2, .ref rL 0), (25, T), (26, .i .i64 (d.length : Int)), (27, .i .i64 (d.length : Int)), (28, v)], H.set lid (.mapS es' es'.length)⟩ /\ CM es' (addF g s 1 (d.drop j))
 | 0, j, H, es, g, hj, hT, hc, hm => by
  obtain rfl : j = d.length := by omega
  rw [List.drop_length]
  refine ⟨es, .b false, ?_, hc.cm⟩
  rw [set_same hc.obj, l85_1, den_loop]
  simp (disch := omega) [b85_0, Z0, Z1, Z2, Z3, Z4, Z5, Z6, Z7, Z8, Z9, Za, Zb, Zc, Zd, Ze, Zf, Zg, Zh, Zi, Zj, Zk, Zl, Zm, Zn, Zo, Zp, Zq, Zr, Zs, Zt, Zu, Zv, Zw, Zx, k_mv, Zy, Zz, ZA, ZB, ZC, ZD, ZE, ZF, ZG, ZH, ZI, ZJ, ZK, ZL, ZM, ZN, ZO, ZP, ZQ, ZR, ZS, ZT, ZU, ZV, ZW, ZX, ZY, ZZ, Y0, Y1, Y2, Y3, Y4, k_mn, k_mx, Y5, Y6, Y7, Y8, Y9, Ya, Yb, Yc, Yd, Ye, Yf, Yg, Yh, Dn.setLast, Dn.getLast, evalO, mapO, Dn.get, putE, Yi, Yj, Yk, Yl, TV.one, TV.isAgg, Dn.part, Ym, negb, at0, at1, at2, at3, at4, dT, dF, Yn, Option.bind_some, Option.map_some]
 | r + 1, j, H, es, g, hj, hT, hc, hm => by
  obtain ⟨f, hfj⟩ : ∃ f, d[j]? = some f := ⟨_, List.getElem?_eq_getElem (by omega)⟩
  have hfb := hf f (List.mem_of_getElem? hfj)
  have hdr : d.drop j = f :: d.drop (j + 1) := by
   obtain ⟨h1, rfl⟩ := List.getElem?_eq_some_iff.1 hfj
   exact List.drop_eq_getElem_cons h1
  have hle := hc.cm.le_mass (s + f)
  obtain ⟨q, q1, q2⟩ := ixI (pg := pg) (R := den pg) hT hfj
  have ld := ld_box (pg := pg) (R := den pg) hc.box rfl
  rw [ZL] at ld
  have lk := hc.cm.lk (pg := pg) (R := den pg) hc.obj (s + f)
  have st := hc.cm.set (pg := pg) (R := den pg) hc.obj (s + f) ((g (s + f)).getD 0 + 1)
  have hc2 : CM (insS (s + f) (.i .i64 (((g (s + f)).getD 0 + 1 : Nat) : Int)) es) (addM g (s + f) 1) := hc.cm.ins _ _
  have hm2 := hc.cm.mass_ins (s + f) ((g (s + f)).getD 0 + 1)
  obtain ⟨es1, he1⟩ : ∃ es1, es1 = insS (s + f) (.i .i64 (((g (s + f)).getD 0 + 1 : Nat) : Int)) es := ⟨_, rfl⟩
  rw [<- he1] at st hc2 hm2
  obtain ⟨es', v, r1, r2⟩ := l85_1_all (pg := pg) hd hf hs r (j + 1) (H.set lid (.mapS es1 es1.length)) es1 (addM g (s + f) 1) (by omega) (hc.view hT _) (hc.put hc2) (by omega)
  rw [List.set_set] at r1
  refine ⟨es', v, Eq.trans ?_ r1, by rw [hdr, addF_cons]; exact r2⟩
  generalize (g (s + f)).getD 0 = w at *
  have wv : wrapR .i64 ((w : Int) + 1) = .i .i64 ((w + 1 : Nat) : Int) := by rw [<- Int.natCast_succ]; exact Yn (by omega)
  generalize H.set lid (.mapS es1 es1.length) = K1 at *
  obtain ⟨N, hN⟩ : ∃ N, N = d.length := ⟨_, rfl⟩
  rw [<- hN] at hj ⊢
  have dj : decide ((j : Int) < (N : Int)) = true := dT (by omega)
  generalize ((w + 1 : Nat) : Int) = wn at *
  rw [l85_1, den_loop]
  simp (disch := omega) [l85_1, b85_0, Z0, Z1, Z2, Z3, Z4, Z5, Z6, Z7, Z8, Z9, Za, Zb, Zc, Zd, Ze, Zf, Zg, Zh, Zi, Zj, Zk, Zl, Zm, Zn, Zo, Zp, Zq, Zr, Zs, Zt, Zu, Zv, Zw, Zx, k_mv, Zy, Zz, ZA, ZB, ZC, ZD, ZE, ZF, ZG, ZH, ZI, ZJ, ZK, ZL, ZM, ZN, ZO, ZP, ZQ, ZR, ZS, ZT, ZU, ZV, ZW, ZX, ZY, ZZ, Y0, Y1, Y2, Y3, Y4, k_mn, k_mx, Y5, Y6, Y7, Y8, Y9, Ya, Yb, Yc, Yd, Ye, Yf, Yg, Yh, Dn.setLast, Dn.getLast, evalO, mapO, Dn.get, putE, Yi, Yj, Yk, Yl, TV.one, TV.isAgg, Dn.part, Ym, negb, at0, at1, at2, at3, at4, dT, dF, Yn, Option.bind_some, Option.map_some, dj, q1, q2, ld, lk, wv, st]

theorem l85_3_all {pg : Pg} {T : TV} {d : List Int} (hd : d.length <= 1000) (hf : ∀ f ∈ d, 0 <= f /\ f <= 1000) {s : Int} (hs : 0 <= s /\ s <= 1000000) {rL lid : Nat} {H : Heap} {es : List (Int × TV)} {g : Int -> Option Nat} (hT : elI.View H T d) (hc : Lft H rL lid es g) (hm : mass es <= 1000000000) :
  ∀ (r i : Nat) (es1 : List (Int × TV)) (g1 : Int -> Option Nat), i + r = d.length -> takes g s (d.take i) = some g1 -> CM es1 g1 -> mass es1 + i = mass es ->
  (∃ es' g' v, takes g s d = some g' /\ CM es' g' /\ mass es' + d.length = mass es /\ den pg l85_3 [(0, .i .i64 s), (1, T), (2, .ref rL 0), (10, T), (11, .i .i64 (d.length : Int)), (12, .i .i64 (i : Int))] (H.set lid (.mapS es1 es1.length)) =
   some ⟨.exit 0, [(0, .i .i64 s), (1, T), (2, .ref rL 0), (10, T), (11, .i .i64 (d.length : Int)), (12, .i .i64 (d.length : Int)), (13, v)], H.set lid (.mapS es' es'.length)⟩) \/
  (takes g s d = none /\ den pg l85_3 [(0, .i .i64 s), (1, T), (2, .ref rL 0), (10, T), (11, .i .i64 (d.length : Int)), (12, .i .i64 (i : Int))] (H.set lid (.mapS es1 es1.length)) = some ⟨.ret, [(5, .b false)], H⟩)
 | 0, i, es1, g1, hi, ht, hc1, hm1 => by
  obtain rfl : i = d.length := by omega
  rw [List.take_length] at ht
  refine .inl ⟨es1, g1, .b false, ht, hc1, hm1, ?_⟩
  rw [l85_3, den_loop]
  simp (disch := omega) [b85_2, Z0, Z1, Z2, Z3, Z4, Z5, Z6, Z7, Z8, Z9, Za, Zb, Zc, Zd, Ze, Zf, Zg, Zh, Zi, Zj, Zk, Zl, Zm, Zn, Zo, Zp, Zq, Zr, Zs, Zt, Zu, Zv, Zw, Zx, k_mv, Zy, Zz, ZA, ZB, ZC, ZD, ZE, ZF, ZG, ZH, ZI, ZJ, ZK, ZL, ZM, ZN, ZO, ZP, ZQ, ZR, ZS, ZT, ZU, ZV, ZW, ZX, ZY, ZZ, Y0, Y1, Y2, Y3, Y4, k_mn, k_mx, Y5, Y6, Y7, Y8, Y9, Ya, Yb, Yc, Yd, Ye, Yf, Yg, Yh, Dn.setLast, Dn.getLast, evalO, mapO, Dn.get, putE, Yi, Yj, Yk, Yl, TV.one, TV.isAgg, Dn.part, Ym, negb, at0, at1, at2, at3, at4, dT, dF, Yn, Option.bind_some, Option.map_some]
 | r + 1, i, es1, g1, hi, ht, hc1, hm1 => by
  obtain ⟨f, hfi⟩ : ∃ f, d[i]? = some f := ⟨_, List.getElem?_eq_getElem (by omega)⟩
  have hfb := hf f (List.mem_of_getElem? hfi)
  have htk : d.take (i + 1) = d.take i ++ [f] := by rw [List.take_add_one, hfi]; rfl
  have hL := hc.put hc1
  have hT1 := hc.view hT (.mapS es1 es1.length)
  have hle := hc1.le_mass (s + f)
  obtain ⟨q, q1, q2⟩ := ixI (pg := pg) (R := den pg) hT1 hfi
  have ld := ld_box (pg := pg) (R := den pg) hL.box rfl
  rw [ZL] at ld
  have lk := hc1.lk (pg := pg) (R := den pg) hL.obj (s + f)
  have hsn := takes_snoc s f (d.take i) g
  rw [<- htk, ht, Option.bind_some] at hsn
  obtain ⟨N, hN⟩ : ∃ N, N = d.length := ⟨_, rfl⟩
  have di : decide ((i : Int) < (N : Int)) = true := dT (by omega)
  by_cases h0 : (g1 (s + f)).getD 0 = 0
  ·rw [if_pos h0] at hsn
   have hnone : takes g s d = none := by
    have := takes_more s (d.take (i + 1)) (d.drop (i + 1)) g hsn
    rwa [List.take_append_drop] at this
   refine .inr ⟨hnone, ?_⟩
   obtain ⟨v, s1, s2⟩ := slcTo hT1 (k := i) (by omega)
   have lnv := s2.lenK
   obtain ⟨es2, w, r1, r2⟩ := l85_1_all (pg := pg) (T := v) (d := d.take i) (by rw [List.length_take]; omega) (fun x hx => hf x (List.mem_of_mem_take hx)) hs (rL := rL) (d.take i).length 0 _ es1 g1 (by omega) s2 hL (by rw [List.length_take]; omega)
   rw [List.drop_zero, takes_give s _ ht] at r2
   rw [List.set_set, r2.uniq hc.cm, set_same hc.obj] at r1
   rw [h0] at lk
   simp only [Int.natCast_zero] at r1 lk
   obtain ⟨M, hM⟩ : ∃ M, M = (d.take i).length := ⟨_, rfl⟩
   rw [<- hM] at r1 lnv
   rw [<- hN]
   generalize H.set lid (.mapS es1 es1.length) = K at *
   rw [l85_3, den_loop]
   simp (disch := omega) [b85_2, Z0, Z1, Z2, Z3, Z4, Z5, Z6, Z7, Z8, Z9, Za, Zb, Zc, Zd, Ze, Zf, Zg, Zh, Zi, Zj, Zk, Zl, Zm, Zn, Zo, Zp, Zq, Zr, Zs, Zt, Zu, Zv, Zw, Zx, k_mv, Zy, Zz, ZA, ZB, ZC, ZD, ZE, ZF, ZG, ZH, ZI, ZJ, ZK, ZL, ZM, ZN, ZO, ZP, ZQ, ZR, ZS, ZT, ZU, ZV, ZW, ZX, ZY, ZZ, Y0, Y1, Y2, Y3, Y4, k_mn, k_mx, Y5, Y6, Y7, Y8, Y9, Ya, Yb, Yc, Yd, Ye, Yf, Yg, Yh, Dn.setLast, Dn.getLast, evalO, mapO, Dn.get, putE, Yi, Yj, Yk, Yl, TV.one, TV.isAgg, Dn.part, Ym, negb, at0, at1, at2, at3, at4, dT, dF, Yn, Option.bind_some, Option.map_some, di, q1, q2, ld, lk, s1, lnv, go_denK (c := l85_1) rfl, r1]
  ·rw [if_neg h0] at hsn
   have st := hc1.set (pg := pg) (R := den pg) hL.obj (s + f) ((g1 (s + f)).getD 0 - 1)
   rw [List.set_set] at st
   have hc2 : CM (insS (s + f) (.i .i64 (((g1 (s + f)).getD 0 - 1 : Nat) : Int)) es1) (subM g1 (s + f)) := hc1.ins _ _
   have hm2 := hc1.mass_ins (s + f) ((g1 (s + f)).getD 0 - 1)
   obtain ⟨es2, he2⟩ : ∃ es2, es2 = insS (s + f) (.i .i64 (((g1 (s + f)).getD 0 - 1 : Nat) : Int)) es1 := ⟨_, rfl⟩
   rw [<- he2] at st hc2 hm2
   have e : den pg l85_3 [(0, .i .i64 s), (1, T), (2, .ref rL 0), (10, T), (11, .i .i64 (d.length : Int)), (12, .i .i64 (i : Int))] (H.set lid (.mapS es1 es1.length)) =
     den pg l85_3 [(0, .i .i64 s), (1, T), (2, .ref rL 0), (10, T), (11, .i .i64 (d.length : Int)), (12, .i .i64 ((i + 1 : Nat) : Int))] (H.set lid (.mapS es2 es2.length)) := by
    generalize (g1 (s + f)).getD 0 = w at *
    have wv : wrapR .i64 ((w : Int) - 1) = .i .i64 ((w - 1 : Nat) : Int) := by rw [show (w : Int) - 1 = ((w - 1 : Nat) : Int) by omega]; exact Yn (by omega)
    rw [<- hN]
    generalize H.set lid (.mapS es1 es1.length) = K at *
    generalize H.set lid (.mapS es2 es2.length) = K2 at *
    generalize ((w - 1 : Nat) : Int) = wn at *
    rw [l85_3, den_loop]
    simp (disch := omega) [l85_3, b85_2, Z0, Z1, Z2, Z3, Z4, Z5, Z6, Z7, Z8, Z9, Za, Zb, Zc, Zd, Ze, Zf, Zg, Zh, Zi, Zj, Zk, Zl, Zm, Zn, Zo, Zp, Zq, Zr, Zs, Zt, Zu, Zv, Zw, Zx, k_mv, Zy, Zz, ZA, ZB, ZC, ZD, ZE, ZF, ZG, ZH, ZI, ZJ, ZK, ZL, ZM, ZN, ZO, ZP, ZQ, ZR, ZS, ZT, ZU, ZV, ZW, ZX, ZY, ZZ, Y0, Y1, Y2, Y3, Y4, k_mn, k_mx, Y5, Y6, Y7, Y8, Y9, Ya, Yb, Yc, Yd, Ye, Yf, Yg, Yh, Dn.setLast, Dn.getLast, evalO, mapO, Dn.get, putE, Yi, Yj, Yk, Yl, TV.one, TV.isAgg, Dn.part, Ym, negb, at0, at1, at2, at3, at4, dT, dF, Yn, Option.bind_some, Option.map_some, di, q1, q2, ld, lk, h0, wv, st]
   rw [e]
   exact l85_3_all hd hf hs hT hc hm r (i + 1) es2 (subM g1 (s + f)) (by omega) hsn hc2 (by omega)

theorem body85 {pg : Pg} (hF : Free pg) {T : TV} {d : List Int} (hd : d.length <= 1000) (hf : ∀ f ∈ d, 0 <= f /\ f <= 1000) {s : Int} (hs : 0 <= s /\ s <= 1000000) {rL lid : Nat} {H : Heap} {es : List (Int × TV)} {g : Int -> Option Nat} (hT : elI.View H T d) (hc : Lft H rL lid es g) (hm : mass es <= 1000000000) :
  (∃ es' g', takes g s d = some g' /\ CM es' g' /\ mass es' + d.length = mass es /\ bodyRun pg (den pg) 85 [.i .i64 s, T, .ref rL 0] H = some (.b true, H.set lid (.mapS es' es'.length))) \/
  (takes g s d = none /\ bodyRun pg (den pg) 85 [.i .i64 s, T, .ref rL 0] H = some (.b false, H)) := by
 have ln := hT.lenK
 have hd85 : pg.F 85 = some d85 := by rw [hF.F]; rfl
 have h0 := l85_3_all (pg := pg) hd hf hs hT hc hm d.length 0 es g (by omega) (by rw [List.take_zero]; rfl) hc.cm (by omega)
 rw [set_same hc.obj] at h0
 simp only [Int.natCast_zero] at h0
 obtain ⟨N, hN⟩ : ∃ N, N = d.length := ⟨_, rfl⟩
 rcases h0 with ⟨es', g', v, h1, h2, h3, h4⟩ | ⟨h1, h4⟩
 ·refine .inl ⟨es', g', h1, h2, h3, body_of (x := .ret) (e := [(5, .b true)]) hd85 rfl ?_ (.inl rfl) rfl⟩
  rw [<- hN] at h4 ln
  generalize H.set lid (.mapS es' es'.length) = K at *
  simp (disch := omega) [d85, c85, zipE, Z0, Z1, Z2, Z3, Z4, Z5, Z6, Z7, Z8, Z9, Za, Zb, Zc, Zd, Ze, Zf, Zg, Zh, Zi, Zj, Zk, Zl, Zm, Zn, Zo, Zp, Zq, Zr, Zs, Zt, Zu, Zv, Zw, Zx, k_mv, Zy, Zz, ZA, ZB, ZC, ZD, ZE, ZF, ZG, ZH, ZI, ZJ, ZK, ZL, ZM, ZN, ZO, ZP, ZQ, ZR, ZS, ZT, ZU, ZV, ZW, ZX, ZY, ZZ, Y0, Y1, Y2, Y3, Y4, k_mn, k_mx, Y5, Y6, Y7, Y8, Y9, Ya, Yb, Yc, Yd, Ye, Yf, Yg, Yh, Dn.setLast, Dn.getLast, evalO, mapO, Dn.get, putE, Yi, Yj, Yk, Yl, TV.one, TV.isAgg, Dn.part, Ym, negb, at0, at1, at2, at3, at4, dT, dF, Yn, Option.bind_some, Option.map_some, ln, go_denK (c := l85_3) rfl, h4]
 ·refine .inr ⟨h1, body_of (x := .ret) (e := [(5, .b false)]) hd85 rfl ?_ (.inl rfl) rfl⟩
  rw [<- hN] at h4 ln
  simp (disch := omega) [d85, c85, zipE, Z0, Z1, Z2, Z3, Z4, Z5, Z6, Z7, Z8, Z9, Za, Zb, Zc, Zd, Ze, Zf, Zg, Zh, Zi, Zj, Zk, Zl, Zm, Zn, Zo, Zp, Zq, Zr, Zs, Zt, Zu, Zv, Zw, Zx, k_mv, Zy, Zz, ZA, ZB, ZC, ZD, ZE, ZF, ZG, ZH, ZI, ZJ, ZK, ZL, ZM, ZN, ZO, ZP, ZQ, ZR, ZS, ZT, ZU, ZV, ZW, ZX, ZY, ZZ, Y0, Y1, Y2, Y3, Y4, k_mn, k_mx, Y5, Y6, Y7, Y8, Y9, Ya, Yb, Yc, Yd, Ye, Yf, Yg, Yh, Dn.setLast, Dn.getLast, evalO, mapO, Dn.get, putE, Yi, Yj, Yk, Yl, TV.one, TV.isAgg, Dn.part, Ym, negb, at0, at1, at2, at3, at4, dT, dF, Yn, Option.bind_some, Option.map_some, ln, go_denK (c := l85_3) rfl, h4]

end Go.Proofs.Try.Dn

/-
 Pairs of dice with given ways: the two lists that grow, copies, the least sum that is left.
-/

namespace Go.Proofs.Try.Dn
open Go.Dn

def Wy (H : Heap) (t : TV) (l : List Int) : Prop := elI.Own H t l \/ ∃ id v, t = .sl id 0 1 false 1 (some 1) /\ l = [v] /\ H[id]? = some (.cells [.i .i64 v] false)

theorem Wy.mono {H H' : Heap} {t : TV} {l : List Int} (h : Wy H t l) (hf : ∀ id, t.idOf = some id -> H'[id]? = H[id]?) : Wy H' t l := by
 rcases h with h | ⟨id, v, rfl, rfl, h⟩
 ·exact .inl (h.mono hf)
 ·exact .inr ⟨id, v, rfl, rfl, by rw [hf id rfl]; exact h⟩

theorem Wy.lt {H : Heap} {t : TV} {l : List Int} (h : Wy H t l) : ∀ id, t.idOf = some id -> id < H.length := by
 rcases h with h | ⟨id, v, rfl, rfl, h⟩
 ·exact h.lt
 ·intro id' hid
  have : id = id' := Option.some.inj hid
  subst this
  exact (List.getElem?_eq_some_iff.1 h).1

theorem Wy.app {H : Heap} {t : TV} {l : List Int} {w : Int} (h : Wy (H ++ [AObj.cells [.i .i64 w] false]) t l) (hb : l.length + 1 <= 1000000) :
  ∃ t' H', appRun 1 false 8 t (.sl H.length 0 1 false 1 (some 1)) (H ++ [AObj.cells [.i .i64 w] false]) = some (t', H') /\ Wy H' t' (l ++ [w]) /\ (H ++ [AObj.cells [.i .i64 w] false]).length <= H'.length /\ (∀ j, j < (H ++ [AObj.cells [.i .i64 w] false]).length -> t.idOf ≠ some j -> H'[j]? = (H ++ [AObj.cells [.i .i64 w] false])[j]?) /\ (t' = t \/ ∀ id, t'.idOf = some id -> (H ++ [AObj.cells [.i .i64 w] false]).length <= id) := by
 rcases h with h | ⟨id, v, rfl, rfl, h⟩
 ·obtain ⟨t', H', h1, h2, h3, h4, h5⟩ := appI h (one_view H w) (by simpa using hb)
  exact ⟨t', H', h1, .inl h2, h3, h4, h5⟩
 ·obtain ⟨H1, hH1⟩ : ∃ H1, H1 = H ++ [AObj.cells [.i .i64 w] false] := ⟨_, rfl⟩
  have g : H1[H.length]? = some (.cells [.i .i64 w] false) := by rw [hH1]; exact getLast _ _
  have hle : H.length <= H1.length := by rw [hH1]; simp
  rw [<- hH1] at h ⊢
  refine ⟨.sl H1.length 0 1 false 2 none, H1 ++ [.cells [.i .i64 v, .i .i64 w] false], ?_, .inl (.inr ⟨by simp, H1.length, false, [.i .i64 v, .i .i64 w], rfl, getLast _ _, by simp [elI], by simp [elI, El.flat]⟩), (by first | (simp; done) | (simp; omega)), fun j hj _ => List.getElem?_append_left hj, .inr fun id' hid => by have : H1.length = id' := Option.some.inj hid; omega⟩
  simp [appRun, lenOf, flatOf, g, h, TV.one]

theorem Wy.own2 {H : Heap} {t : TV} {l : List Int} (h : Wy H t l) (hl : 2 <= l.length) : elI.Own H t l := by
 rcases h with h | ⟨id, v, rfl, rfl, h⟩
 ·exact h
 ·simp at hl
theorem Wy.one {H : Heap} {t : TV} {l : List Int} (h : Wy H t l) : t.isAgg = false /\ t.one = true := by
 rcases h with (⟨rfl, _⟩ | ⟨_, id, ag, c, rfl, _⟩) | ⟨id, v, rfl, _, _⟩ <;> exact ⟨rfl, rfl⟩

theorem Wy.cut {H : Heap} {t : TV} {l : List Int} {w : Int} (h : Wy H t (l ++ [w])) (hl : l ≠ []) :
  ∃ t', slcRun false true false 1 false t [.i .i64 (l.length : Int)] = some t' /\ Wy H t' l /\ t'.idOf = t.idOf := by
 have hp : 1 <= l.length := List.length_pos_iff.2 hl
 rcases h.own2 (by simp; omega) with ⟨_, h0⟩ | ⟨_, id, ag, c, rfl, h1, h2, h3⟩
 ·simp at h0
 ·refine ⟨.sl id 0 1 false l.length none, ?_, .inl (.inr ⟨hl, id, ag, c, rfl, h1, ?_, ?_⟩), rfl⟩
  ·have e1 : (elI.sz) = 1 := rfl
   have e2 : (elI.ag) = false := rfl
   have hb : bounds3 false true false (l ++ [w]).length [.i .i64 (l.length : Int)] = some (0, l.length, none) := by
    simp [bounds3, bound]
   rw [e1, e2]
   simp only [slcRun, hb, Option.bind_some]
   simp
  ·simp only [List.length_append, List.length_singleton] at h2
   have e1 : (elI.sz) = 1 := rfl
   rw [e1] at h2 ⊢; omega
  ·have e1 : (elI.sz) = 1 := rfl
   rw [e1] at h2 h3 ⊢
   have h4 := congrArg (List.take (l.length * 1)) h3
   rw [List.take_take] at h4
   rw [show min (l.length * 1) ((l ++ [w]).length * 1) = l.length * 1 by simp] at h4
   rw [h4, El.flat_append]
   have e5 : (elI.flat l).length = l.length * 1 := El.flat_len elI l
   rw [<- e5, List.take_left']
   rfl

theorem clone_run {pg : Pg} {l : List Int} (hne : l ≠ []) (hl : l.length <= 1000000) {t : TV} {H : Heap} (hv : elI.View H t l) (hn : t ≠ .nilsl) :
  dkc pg (den pg) (.eqN 0 false) [t, .nilsl] H = some (.b false, H) /\
  appRun 1 false 8 (.sl H.length 0 1 false 0 (some 0)) t (H ++ [.cells [] false]) = some (.sl (H.length + 1) 0 1 false l.length none, H ++ [.cells [] false, .cells (elI.flat l) false]) /\
  elI.Own (H ++ [.cells [] false, .cells (elI.flat l) false]) (.sl (H.length + 1) 0 1 false l.length none) l := by
 have hlen : 0 < l.length := by cases l <;> simp_all
 have hv' : elI.View (H ++ [.cells [] false]) t l := hv.mono fun id hid => by rw [List.getElem?_append_left (hv.lt id hid)]
 have hfa := elI.flat_all l
 have hfn := elI.flat_len l
 have hsz : elI.sz = 1 := rfl
 have hfl := hv'.flatOf
 rw [hsz] at hfl hfn
 rw [Nat.mul_one] at hfn
 refine ⟨?_, ?_, ?_⟩
 ·rcases hv with ⟨rfl, rfl⟩ | ⟨b, rfl⟩ | ⟨id, off, cap, c, ag, rfl, _⟩
  ·exact absurd rfl hn
  ·rfl
  ·rfl
 ·unfold appRun
  rw [hv'.lenOf, Option.bind_some, hfl, Option.bind_some]
  simp only [lenOf, Option.bind_some, Nat.zero_add, Nat.mul_one]
  rw [if_pos ⟨by omega, hfa, hfn⟩, if_neg (by omega)]
  simp only [if_true, getLast, Nat.zero_add]
  rw [if_pos (by simp), if_neg (by omega)]
  simp
 ·exact .inr ⟨hne, H.length + 1, false, elI.flat l, rfl, by rw [List.getElem?_append_right (by omega)]; simp, by rw [hsz, Nat.mul_one, hfn]; exact Nat.le_refl _, by rw [hsz, Nat.mul_one, <- hfn, List.take_length]⟩

theorem Wy.view {H : Heap} {t : TV} {l : List Int} (h : Wy H t l) : elI.View H t l := by
 rcases h with h | ⟨id, v, rfl, rfl, h⟩
 ·exact h.view
 ·exact .inr (.inr ⟨id, 0, some 1, _, false, rfl, by simp, h, by simp [elI], by simp [elI, El.flat]⟩)

theorem Wy.nn {H : Heap} {t : TV} {l : List Int} (h : Wy H t l) (hl : l ≠ []) : t ≠ .nilsl := by
 rcases h with (⟨_, h⟩ | ⟨_, id, ag, c, rfl, _⟩) | ⟨id, v, rfl, _, _⟩
 ·exact absurd h hl
 ·intro e; cases e
 ·intro e; cases e

theorem body88 {pg : Pg} (hF : Free pg) {l : List Int} (hne : l ≠ []) (hl : l.length <= 1000000) {t : TV} {H : Heap} (hv : elI.View H t l) (hn : t ≠ .nilsl) :
  bodyRun pg (den pg) 88 [t] H = some (.sl (H.length + 1) 0 1 false l.length none, H ++ [.cells [] false, .cells (elI.flat l) false]) /\ elI.Own (H ++ [.cells [] false, .cells (elI.flat l) false]) (.sl (H.length + 1) 0 1 false l.length none) l := by
 obtain ⟨en, happ, hR⟩ := clone_run (pg := pg) hne hl hv hn
 have hb : dkc pg (den pg) (.bsl false [.i .i64 0] false 0 []) [] H = some (.sl H.length 0 1 false 0 (some 0), H ++ [.cells [] false]) := rfl
 refine ⟨body_of (x := .ret) (e := [(2, .sl (H.length + 1) 0 1 false l.length none)]) (d := d88) (by rw [hF.F]; rfl) rfl ?_ (.inl rfl) rfl, hR⟩
 simp [d88, c88, zipE, Z0, Z1, Z2, Z3, Z4, Z5, Z6, Z7, Z8, Z9, Za, Zb, Zc, Zd, Ze, Zf, Zg, Zh, Zi, Zj, Zk, Zl, Zm, Zn, Zo, Zp, Zq, Zr, Zs, Zt, Zu, Zv, Zw, Zx, k_mv, Zy, Zz, ZA, ZB, ZC, ZD, ZE, ZF, ZG, ZH, ZI, ZJ, ZK, ZL, ZM, ZN, ZO, ZP, ZQ, ZR, ZS, ZT, ZU, ZV, ZW, ZX, ZY, ZZ, Y0, Y1, Y2, Y3, Y4, k_mn, k_mx, Y5, Y6, Y7, Y8, Y9, Ya, Yb, Yc, Yd, Ye, Yf, Yg, Yh, Dn.setLast, Dn.getLast, evalO, mapO, Dn.get, putE, keepE, TV.one, TV.isAgg, Dn.part, en, hb, happ]

theorem fn88 {pg : Pg} (hF : Free pg) {A : TV} {l : List Int} (hA : SV A l) (hne : l ≠ []) (hl : l.length <= 1000000) : PFn pg 88 [A] (elI.lt false l) := by
 have hn : A ≠ .nilsl := by
  rcases hA with ⟨_, h⟩ | ⟨b, rfl⟩
  ·exact absurd h hne
  ·intro e; cases e
 obtain ⟨h1, h2⟩ := body88 (pg := pg) hF hne hl (hA.view []) hn
 exact .inr ⟨hF.S _ _, _, _, h1, h2.fin elI_flat⟩

/-! the least sum that is left -/
def lstep (z : Option Int) (q : Int × TV) : Option Int := if q.2.num = 0 then z else match z with | none => some q.1 | some m => some (if q.1 < m then q.1 else m)

theorem lstep_comm (z : Option Int) (x y : Int × TV) : lstep (lstep z x) y = lstep (lstep z y) x := by
 unfold lstep
 by_cases hx : x.2.num = 0
 ·rw [if_pos hx, if_pos hx]
 ·by_cases hy : y.2.num = 0
  ·rw [if_pos hy, if_pos hy]
  ·rw [if_neg hx, if_neg hy, if_neg hx, if_neg hy]
   cases z with
   | none =>
    simp only
    congr 1
    split <;> split <;> omega
   | some m =>
    simp only
    congr 1
    (repeat' split) <;> omega

theorem lfold_perm {p es : List (Int × TV)} (h : p.Perm es) (z : Option Int) : p.foldl lstep z = es.foldl lstep z :=
 foldl_perm (I := fun _ => True) (J := fun _ => True) (fun _ _ _ _ => trivial) (fun z x y _ _ _ => lstep_comm z x y) h (fun _ _ => trivial) z trivial

theorem lfold_spec : ∀ (p : List (Int × TV)) (z : Option Int), match p.foldl lstep z with
  | none => z = none /\ ∀ q ∈ p, q.2.num = 0
  | some m => (z = some m \/ ∃ q ∈ p, q.1 = m /\ q.2.num ≠ 0) /\ (∀ k, z = some k -> m <= k) /\ ∀ q ∈ p, q.2.num ≠ 0 -> m <= q.1
 | [], none => ⟨rfl, fun q hq => by cases hq⟩
 | [], some m => ⟨.inl rfl, fun k hk => by cases hk; exact Int.le_refl _, fun q hq => by cases hq⟩
 | x :: p, z => by
  have ih := lfold_spec p (lstep z x)
  rw [List.foldl_cons]
  revert ih
  cases h : p.foldl lstep (lstep z x) with
  | none =>
   rintro ⟨h1, h2⟩
   unfold lstep at h1
   by_cases hx : x.2.num = 0
   ·rw [if_pos hx] at h1
    refine ⟨h1, fun q hq => ?_⟩
    rcases List.mem_cons.1 hq with rfl | hq
    ·exact hx
    ·exact h2 q hq
   ·rw [if_neg hx] at h1
    cases z <;> cases h1
  | some m =>
   rintro ⟨h1, h2, h3⟩
   unfold lstep at h1 h2
   by_cases hx : x.2.num = 0
   ·rw [if_pos hx] at h1 h2
    refine ⟨?_, h2, fun q hq hn => ?_⟩
    ·rcases h1 with h1 | ⟨q, hq, h1⟩
     ·exact .inl h1
     ·exact .inr ⟨q, List.mem_cons_of_mem _ hq, h1⟩
    ·rcases List.mem_cons.1 hq with rfl | hq
     ·exact absurd hx hn
     ·exact h3 q hq hn
   ·rw [if_neg hx] at h1 h2
    cases z with
    | none =>
     simp only at h1 h2
     refine ⟨.inr ?_, fun k hk => (by cases hk), fun q hq hn => ?_⟩
     ·rcases h1 with h1 | ⟨q, hq, h1⟩
      ·exact ⟨x, List.mem_cons_self .., Option.some.inj h1, hx⟩
      ·exact ⟨q, List.mem_cons_of_mem _ hq, h1⟩
     ·rcases List.mem_cons.1 hq with rfl | hq
      ·exact h2 _ rfl
      ·exact h3 q hq hn
    | some k =>
     simp only at h1 h2
     have h4 := h2 _ rfl
     refine ⟨?_, fun j hj => ?_, fun q hq hn => ?_⟩
     ·rcases h1 with h1 | ⟨q, hq, h1⟩
      ·have h1 := Option.some.inj h1
       by_cases hlt : x.1 < k
       ·rw [if_pos hlt] at h1; exact .inr ⟨x, List.mem_cons_self .., h1, hx⟩
       ·rw [if_neg hlt] at h1; rw [h1]; exact .inl rfl
      ·exact .inr ⟨q, List.mem_cons_of_mem _ hq, h1⟩
     ·cases hj
      split at h4 <;> omega
     ·rcases List.mem_cons.1 hq with rfl | hq
      ·split at h4 <;> omega
      ·exact h3 q hq hn

end Go.Proofs.Try.Dn

/-
 Pairs of dice with given ways: the loop for the least sum that is left.
-/

namespace Go.Proofs.Try.Dn
open Go.Dn

abbrev ops87 : List DOper := [oM 24 24, oO 25 (.ext 0) [.t 24], oO 26 (.ext 1) [.t 24], oM 14 25, oM 15 26]

structure V87 where
 (a b c d e f g h i j : TV)

def E87 (v : V87) (it : Nat) (z : Option Int) : Env := [(1, v.a), (2, v.b), (3, v.c), (4, v.d), (5, v.e), (6, v.f), (7, v.g), (8, v.h), (9, v.i), (10, v.j), (12, .i .i64 (z.getD 0)), (13, .b z.isSome), (21, .ref it 0)]

theorem mf87 {pg : Pg} (v : V87) {it : Nat} {K : Heap} : ∀ (p : List (Int × TV)), (∀ q ∈ p, ∃ n : Nat, q.2 = .i .i64 (n : Int)) -> ∀ z : Option Int,
  mf pg (den pg) 21 it 1 24 ops87 [1, 2, 3, 4, 5, 6, 7, 8, 9, 10, 12, 13, 14, 15, 21] b87_0 [1, 2, 3, 4, 5, 6, 7, 8, 9, 10, 12, 13, 21] p (E87 v it z) K = some (E87 v it (p.foldl lstep z), K)
 | [], _, z => mf_nil _ _
 | (s, w) :: p, hp, z => by
  obtain ⟨n, hn⟩ := hp (s, w) (List.mem_cons_self ..)
  have hn : w = .i .i64 (n : Int) := hn
  subst hn
  have ih := fun z => mf87 (pg := pg) v (it := it) (K := K) p (fun q hq => hp q (List.mem_cons_of_mem _ hq)) z
  rw [List.foldl_cons]
  obtain ⟨a, b, c, d, e, f, g, h, i, j⟩ := v
  have hl : lstep z (s, .i .i64 (n : Int)) = if n = 0 then z else match z with | none => some s | some m => some (if s < m then s else m) := by
   by_cases h : n = 0 <;> cases z <;> simp [lstep, TV.num, h]
  rw [hl]
  by_cases h0 : n = 0
  ·rw [if_pos h0]
   subst h0
   refine Eq.trans (mf_cons (e1 := [(1, a), (2, b), (3, c), (4, d), (5, e), (6, f), (7, g), (8, h), (9, i), (10, j), (12, .i .i64 (z.getD 0)), (13, .b z.isSome), (14, .i .i64 s), (21, .ref it 0), (37, .b false)]) ?_ rfl) (ih z)
   cases z <;> simp (disch := omega) [b87_0, E87, Z0, Z1, Z2, Z3, Z4, Z5, Z6, Z7, Z8, Z9, Za, Zb, Zc, Zd, Ze, Zf, Zg, Zh, Zi, Zj, Zk, Zl, Zm, Zn, Zo, Zp, Zq, Zr, Zs, Zt, Zu, Zv, Zw, Zx, k_mv, Zy, Zz, ZA, ZB, ZC, ZD, ZE, ZF, ZG, ZH, ZI, ZJ, ZK, ZL, ZM, ZN, ZO, ZP, ZQ, ZR, ZS, ZT, ZU, ZV, ZW, ZX, ZY, ZZ, Y0, Y1, Y2, Y3, Y4, k_mn, k_mx, Y5, Y6, Y7, Y8, Y9, Ya, Yb, Yc, Yd, Ye, Yf, Yg, Yh, Dn.setLast, Dn.getLast, evalO, mapO, Dn.get, putE, Yi, Yj, Yk, Yl, TV.one, TV.isAgg, Dn.part, Ym, negb, at0, at1, at2, at3, at4, dT, dF, Yn, Option.bind_some, Option.map_some]
  ·rw [if_neg h0]
   cases z with
   | none =>
    refine Eq.trans (mf_cons (e1 := [(1, a), (2, b), (3, c), (4, d), (5, e), (6, f), (7, g), (8, h), (9, i), (10, j), (12, .i .i64 s), (13, .b true), (21, .ref it 0)]) ?_ rfl) (ih (some s))
    simp (disch := omega) [b87_0, E87, Z0, Z1, Z2, Z3, Z4, Z5, Z6, Z7, Z8, Z9, Za, Zb, Zc, Zd, Ze, Zf, Zg, Zh, Zi, Zj, Zk, Zl, Zm, Zn, Zo, Zp, Zq, Zr, Zs, Zt, Zu, Zv, Zw, Zx, k_mv, Zy, Zz, ZA, ZB, ZC, ZD, ZE, ZF, ZG, ZH, ZI, ZJ, ZK, ZL, ZM, ZN, ZO, ZP, ZQ, ZR, ZS, ZT, ZU, ZV, ZW, ZX, ZY, ZZ, Y0, Y1, Y2, Y3, Y4, k_mn, k_mx, Y5, Y6, Y7, Y8, Y9, Ya, Yb, Yc, Yd, Ye, Yf, Yg, Yh, Dn.setLast, Dn.getLast, evalO, mapO, Dn.get, putE, Yi, Yj, Yk, Yl, TV.one, TV.isAgg, Dn.part, Ym, negb, at0, at1, at2, at3, at4, dT, dF, Yn, Option.bind_some, Option.map_some, h0]
   | some m =>
    simp only
    by_cases hlt : s < m
    ·rw [if_pos hlt]
     refine Eq.trans (mf_cons (e1 := [(1, a), (2, b), (3, c), (4, d), (5, e), (6, f), (7, g), (8, h), (9, i), (10, j), (12, .i .i64 s), (13, .b true), (21, .ref it 0)]) ?_ rfl) (ih (some s))
     simp (disch := omega) [b87_0, E87, Z0, Z1, Z2, Z3, Z4, Z5, Z6, Z7, Z8, Z9, Za, Zb, Zc, Zd, Ze, Zf, Zg, Zh, Zi, Zj, Zk, Zl, Zm, Zn, Zo, Zp, Zq, Zr, Zs, Zt, Zu, Zv, Zw, Zx, k_mv, Zy, Zz, ZA, ZB, ZC, ZD, ZE, ZF, ZG, ZH, ZI, ZJ, ZK, ZL, ZM, ZN, ZO, ZP, ZQ, ZR, ZS, ZT, ZU, ZV, ZW, ZX, ZY, ZZ, Y0, Y1, Y2, Y3, Y4, k_mn, k_mx, Y5, Y6, Y7, Y8, Y9, Ya, Yb, Yc, Yd, Ye, Yf, Yg, Yh, Dn.setLast, Dn.getLast, evalO, mapO, Dn.get, putE, Yi, Yj, Yk, Yl, TV.one, TV.isAgg, Dn.part, Ym, negb, at0, at1, at2, at3, at4, dT, dF, Yn, Option.bind_some, Option.map_some, h0, hlt]
    ·rw [if_neg hlt]
     refine Eq.trans (mf_cons (e1 := [(1, a), (2, b), (3, c), (4, d), (5, e), (6, f), (7, g), (8, h), (9, i), (10, j), (12, .i .i64 m), (13, .b true), (14, .i .i64 s), (21, .ref it 0), (37, .b false)]) ?_ rfl) (ih (some m))
     simp (disch := omega) [b87_0, E87, Z0, Z1, Z2, Z3, Z4, Z5, Z6, Z7, Z8, Z9, Za, Zb, Zc, Zd, Ze, Zf, Zg, Zh, Zi, Zj, Zk, Zl, Zm, Zn, Zo, Zp, Zq, Zr, Zs, Zt, Zu, Zv, Zw, Zx, k_mv, Zy, Zz, ZA, ZB, ZC, ZD, ZE, ZF, ZG, ZH, ZI, ZJ, ZK, ZL, ZM, ZN, ZO, ZP, ZQ, ZR, ZS, ZT, ZU, ZV, ZW, ZX, ZY, ZZ, Y0, Y1, Y2, Y3, Y4, k_mn, k_mx, Y5, Y6, Y7, Y8, Y9, Ya, Yb, Yc, Yd, Ye, Yf, Yg, Yh, Dn.setLast, Dn.getLast, evalO, mapO, Dn.get, putE, Yi, Yj, Yk, Yl, TV.one, TV.isAgg, Dn.part, Ym, negb, at0, at1, at2, at3, at4, dT, dF, Yn, Option.bind_some, Option.map_some, h0, hlt]

end Go.Proofs.Try.Dn

/-
 Pairs of dice with given ways: the least sum that is left, in the program.
-/

namespace Go.Proofs.Try.Dn
open Go.Dn

theorem least_spec {es : List (Int × TV)} {g : Int -> Option Nat} (h : CM es g) : match es.foldl lstep none with
  | none => ∀ k, (g k).getD 0 = 0
  | some m => (g m).getD 0 ≠ 0 /\ ∀ k, (g k).getD 0 ≠ 0 -> m <= k := by
 have hs := lfold_spec es none
 have hk : ∀ k, (g k).getD 0 ≠ 0 -> ∃ q ∈ es, q.1 = k /\ q.2.num ≠ 0 := fun k hk => by
  cases hg : g k with
  | none => rw [hg] at hk; exact absurd rfl hk
  | some n =>
   rw [hg] at hk
   exact ⟨_, cm_has h hg, rfl, by simpa [TV.num] using hk⟩
 revert hs
 cases es.foldl lstep none with
 | none =>
  rintro ⟨_, h2⟩ k
  apply Classical.byContradiction
  intro h0
  obtain ⟨q, hq, _, hn⟩ := hk k h0
  exact hn (h2 q hq)
 | some m =>
  rintro ⟨h1, _, h3⟩
  refine ⟨?_, fun k h0 => ?_⟩
  ·rcases h1 with h1 | ⟨q, hq, h1, hn⟩
   ·cases h1
   ·obtain ⟨n, e1, e2⟩ := cm_ent h hq
    rw [<- h1, e1]
    rw [e2] at hn
    simpa [TV.num] using hn
  ·obtain ⟨q, hq, e, hn⟩ := hk k h0
   have := h3 q hq hn
   omega

theorem mr87 {pg : Pg} (v : V87) {H : Heap} {lid : Nat} {es : List (Int × TV)} {g : Int -> Option Nat} (ho : H[lid]? = some (.mapS es es.length)) (hc : CM es g) (K : List Fr) :
  go pg (den pg) (.c l87_2 :: K) .normal (E87 v H.length none) (H ++ [.iter lid es.length]) = go pg (den pg) (.c z87_1 :: K) .normal (E87 v H.length (es.foldl lstep none)) (H ++ [.dead]) := by
 have hlt := (List.getElem?_eq_some_iff.1 ho).1
 have e1 : (H ++ [AObj.iter lid es.length]).set H.length .dead = H ++ [.dead] := by simp
 have g1 : (H ++ [AObj.dead])[lid]? = some (.mapS es es.length) := by rw [List.getElem?_append_left hlt]; exact ho
 unfold l87_2
 rw [go_mrange (id := H.length) (mid := lid) (ck := es.length) (es := es) (e' := E87 v H.length (es.foldl lstep none)) (H' := ((H ++ [AObj.iter lid es.length]).set H.length .dead).set lid .dead) rfl (getLast _ _) (by rw [List.getElem?_append_left hlt]; exact ho) fun p hp => ?_]
 ·rw [e1, List.set_set, set_same g1]
 ·have := mf87 (pg := pg) v (it := H.length) (K := ((H ++ [AObj.iter lid es.length]).set H.length .dead).set lid .dead) p (fun q hq => by
   obtain ⟨n, _, h2⟩ := cm_ent hc (hp.mem_iff.1 hq)
   exact ⟨n, h2⟩) none
  rw [lfold_perm hp] at this
  exact this

end Go.Proofs.Try.Dn

