/-
  Dice of any numbers.
-/
import Derived.Test.YtijeefncmgjlpaaDicDT
import Derived.Test.YtijeefncmgjlpaaDd
set_option linter.unusedSimpArgs false
set_option linter.unusedVariables false

namespace Go.Proofs.Try.Dn
open Go.Dn

structure Free (pg : Pg) : Prop where
 F : pg.F = tab.look
 S : ∀ f xs, pg.S f xs = none

structure Faces (most : Int) (d : List Int) : Prop where
 le : d.length <= 8
 ok : ∀ x ∈ d, 0 <= x /\ x <= most
 srt : d.Pairwise (· <= ·)

structure DieL (most : Int) (d : List Int) : Prop extends Faces most d where
 pos : 1 <= d.length

theorem ins_srt {d : List Int} {x : Int} {k : Nat} (hs : d.Pairwise (· <= ·)) (h1 : ∀ j, j < k -> ∀ y, d[j]? = some y -> y <= x) (h2 : ∀ y, d[k]? = some y -> x < y) : (d.take k ++ [x] ++ d.drop k).Pairwise (· <= ·) := by
 have hx : ∀ b ∈ d.drop k, x <= b := fun b hb => by
  by_cases hk : k < d.length
  ·rw [List.drop_eq_getElem_cons hk] at hb
   have h3 := h2 _ (List.getElem?_eq_getElem hk)
   rcases List.mem_cons.1 hb with rfl | hb
   ·omega
   ·have h4 : (d.drop k).Pairwise (· <= ·) := hs.drop
    rw [List.drop_eq_getElem_cons hk] at h4
    have := (List.pairwise_cons.1 h4).1 b hb
    omega
  ·rw [List.drop_eq_nil_of_le (by omega)] at hb
   cases hb
 have ha : ∀ a ∈ d.take k, a <= x := fun a ha => by
  obtain ⟨j, hj, rfl⟩ := List.getElem_of_mem ha
  rw [List.length_take] at hj
  rw [List.getElem_take]
  exact h1 j (by omega) _ (List.getElem?_eq_getElem (by omega))
 refine List.pairwise_append.2 ⟨List.pairwise_append.2 ⟨hs.take, List.pairwise_singleton _ _, fun a h b hb => ?_⟩, hs.drop, fun a h b hb => ?_⟩
 ·rw [List.mem_singleton.1 hb]; exact ha a h
 ·rcases List.mem_append.1 h with h | h
  ·have := ha a h
   have := hx b hb
   omega
  ·rw [List.mem_singleton.1 h]; exact hx b hb

theorem tmod_nat (n m : Nat) : (n : Int).tmod (m : Int) = ((n % m : Nat) : Int) := by simp [Int.tmod]

theorem conv_rem (v : Int) {n : Nat} (hn : 1 <= n) (hb : n <= 9223372036854775807) : ∃ w m : Nat, wrapR .u64 v = .i .u64 (w : Int) /\ binI .rem (.i .u64 (w : Int)) (.i .u64 (n : Int)) = some (.i .u64 (m : Int)) /\ m < n /\ wrapR .i64 (m : Int) = .i .i64 (m : Int) := by
 obtain ⟨w, hw⟩ : ∃ w : Nat, IntKind.wrap .u64 v = (w : Int) := ⟨(IntKind.wrap .u64 v).toNat, by simp only [IntKind.wrap, IntKind.signed, IntKind.bits, Bool.false_and, Bool.false_eq_true, if_false]; omega⟩
 have hm : w % n < n := Nat.mod_lt _ (by omega)
 refine ⟨w, w % n, by unfold wrapR; rw [hw], ?_, hm, Yn (by omega)⟩
 rw [b_rem, if_neg (by omega), tmod_nat w n]

theorem l19_1_all {pg : Pg} {A M I O : TV} {d : List Int} {x : Int} {H : Heap} (hO : elI.Own H O d) (hd : d.length <= 8) : ∀ (n k : Nat), k + n = d.length -> (∀ j, j < k -> ∀ y, d[j]? = some y -> y <= x) ->
  ∃ k' : Nat, den pg l19_1 [(0, A), (1, M), (5, O), (6, I), (7, .i .i64 x), (8, .i .i64 (k : Int))] H = some ⟨.exit 2, [(0, A), (1, M), (5, O), (6, I), (7, .i .i64 x), (8, .i .i64 (k' : Int)), (41, .b false)], H⟩ /\ k' <= d.length /\
   (∀ j, j < k' -> ∀ y, d[j]? = some y -> y <= x) /\ ∀ y, d[k']? = some y -> x < y
 | 0, k, hk, h1 => by
  obtain rfl : k = d.length := by omega
  have ln := hO.view.lenK
  refine ⟨d.length, ?_, Nat.le_refl _, h1, fun y hy => by rw [List.getElem?_eq_none (Nat.le_refl _)] at hy; cases hy⟩
  rw [l19_1, den_loop]
  simp (disch := omega) [b19_0, Z0, Z1, Z2, Z3, Z4, Z5, Z6, Z7, Z8, Z9, Za, Zb, Zc, Zd, Ze, Zf, Zg, Zh, Zi, Zj, Zk, Zl, Zm, Zn, Zo, Zp, Zq, Zr, Zs, Zt, Zu, Zv, Zw, Zx, k_mv, Zy, Zz, ZA, ZB, ZC, ZD, ZE, ZF, ZG, ZH, ZI, ZJ, ZK, ZL, ZM, ZN, ZO, ZP, ZQ, ZR, ZS, ZT, ZU, ZV, ZW, ZX, ZY, ZZ, Y0, Y1, Y2, Y3, Y4, k_mn, k_mx, Y5, Y6, Y7, Y8, Y9, Ya, Yb, Yc, Yd, Ye, Yf, Yg, Yh, Dn.setLast, Dn.getLast, evalO, mapO, Dn.get, putE, Yi, Yj, Yk, Yl, TV.one, TV.isAgg, Dn.part, Ym, negb, at0, at1, at2, at3, at4, dT, dF, Yn, Option.bind_some, Option.map_some, ln]
 | n + 1, k, hk, h1 => by
  have ln := hO.view.lenK
  have hlt : k < d.length := by omega
  obtain ⟨y, hy⟩ : ∃ y, d[k]? = some y := ⟨_, List.getElem?_eq_getElem hlt⟩
  obtain ⟨p, p1, p2⟩ := ixI (pg := pg) (R := den pg) hO.view hy
  have dk : decide ((k : Int) < (d.length : Int)) = true := dT (by omega)
  by_cases hle : y <= x
  ·obtain ⟨k', q1, q2, q3, q4⟩ := l19_1_all (pg := pg) (A := A) (M := M) (I := I) hO hd n (k + 1) (by omega) (fun j hj z hz => by
    by_cases hjk : j = k
    ·subst hjk; rw [hy] at hz; cases hz; exact hle
    ·exact h1 j (by omega) z hz)
   refine ⟨k', Eq.trans ?_ q1, q2, q3, q4⟩
   rw [l19_1, den_loop]
   simp (disch := omega) [l19_1, b19_0, Z0, Z1, Z2, Z3, Z4, Z5, Z6, Z7, Z8, Z9, Za, Zb, Zc, Zd, Ze, Zf, Zg, Zh, Zi, Zj, Zk, Zl, Zm, Zn, Zo, Zp, Zq, Zr, Zs, Zt, Zu, Zv, Zw, Zx, k_mv, Zy, Zz, ZA, ZB, ZC, ZD, ZE, ZF, ZG, ZH, ZI, ZJ, ZK, ZL, ZM, ZN, ZO, ZP, ZQ, ZR, ZS, ZT, ZU, ZV, ZW, ZX, ZY, ZZ, Y0, Y1, Y2, Y3, Y4, k_mn, k_mx, Y5, Y6, Y7, Y8, Y9, Ya, Yb, Yc, Yd, Ye, Yf, Yg, Yh, Dn.setLast, Dn.getLast, evalO, mapO, Dn.get, putE, Yi, Yj, Yk, Yl, TV.one, TV.isAgg, Dn.part, Ym, negb, at0, at1, at2, at3, at4, dT, dF, Yn, Option.bind_some, Option.map_some, ln, dk, p1, p2]
  ·refine ⟨k, ?_, by omega, h1, fun z hz => by rw [hy] at hz; cases hz; omega⟩
   rw [l19_1, den_loop]
   simp (disch := omega) [b19_0, Z0, Z1, Z2, Z3, Z4, Z5, Z6, Z7, Z8, Z9, Za, Zb, Zc, Zd, Ze, Zf, Zg, Zh, Zi, Zj, Zk, Zl, Zm, Zn, Zo, Zp, Zq, Zr, Zs, Zt, Zu, Zv, Zw, Zx, k_mv, Zy, Zz, ZA, ZB, ZC, ZD, ZE, ZF, ZG, ZH, ZI, ZJ, ZK, ZL, ZM, ZN, ZO, ZP, ZQ, ZR, ZS, ZT, ZU, ZV, ZW, ZX, ZY, ZZ, Y0, Y1, Y2, Y3, Y4, k_mn, k_mx, Y5, Y6, Y7, Y8, Y9, Ya, Yb, Yc, Yd, Ye, Yf, Yg, Yh, Dn.setLast, Dn.getLast, evalO, mapO, Dn.get, putE, Yi, Yj, Yk, Yl, TV.one, TV.isAgg, Dn.part, Ym, negb, at0, at1, at2, at3, at4, dT, dF, Yn, Option.bind_some, Option.map_some, ln, dk, p1, p2]

theorem Row.cat {base : Nat} {H0 H : Heap} {R v : TV} {l k : List Int} (h : RowInv base H0 H R l) (hv : elI.View H v k) (hb : l.length + k.length <= 1000000) :
  ∃ R' H', appRun 1 false 8 R v H = some (R', H') /\ RowInv base H0 H' R' (l ++ k) := by
 obtain ⟨R', H', h1, h2, h3, h4, h5⟩ := appI h.own hv hb
 have hl := h.len
 refine ⟨R', H', h1, h2, fun j hj => ?_, fun id hid => ?_, by omega⟩
 ·rw [h4 j (by omega) (fun he => by have := h.new j he; omega)]
  exact h.old j hj
 ·rcases h5 with rfl | h5
  ·exact h.new id hid
  ·have := h5 id hid
   omega

theorem Row.base {base : Nat} {H0 H H' : Heap} {R R' : TV} {l l' : List Int} (h : RowInv base H0 H R l) (h' : RowInv H.length H H' R' l') : RowInv base H0 H' R' l' where
 own := h'.own
 old j hj := by have := h.len; rw [h'.old j (by omega), h.old j hj]
 new id hid := by have := h.len; have := h'.new id hid; omega
 len := by have := h.len; have := h'.len; omega

theorem slcTo {H : Heap} {t : TV} {l : List Int} (h : elI.View H t l) {k : Nat} (hk : k <= l.length) : ∃ v, slcRun false true false 1 false t [.i .i64 (k : Int)] = some v /\ elI.View H v (l.take k) := by
 obtain ⟨v, h1, h2, _⟩ := h.slc (lo := 0) (hi := k) (bl := false) (bh := true) (vs := [.i .i64 (k : Int)]) (by omega) hk (by simp [bounds3, bound])
 exact ⟨v, h1, by simpa using h2⟩
theorem slcFrom {H : Heap} {t : TV} {l : List Int} (h : elI.View H t l) {k : Nat} (hk : k <= l.length) : ∃ v, slcRun true false false 1 false t [.i .i64 (k : Int)] = some v /\ elI.View H v (l.drop k) := by
 obtain ⟨v, h1, h2, _⟩ := h.slc (lo := k) (hi := l.length) (bl := true) (bh := false) (vs := [.i .i64 (k : Int)]) hk (Nat.le_refl _) (by simp [bounds3, bound, hk])
 exact ⟨v, h1, by simpa using h2⟩

theorem ins_len (d : List Int) (x : Int) (k : Nat) : (d.take k ++ [x] ++ d.drop k).length = d.length + 1 := by
 simp only [List.length_append, List.length_take, List.length_drop, List.length_singleton]; omega

theorem ins_faces {most : Int} {d : List Int} {x : Int} {k : Nat} (h : Faces most d) (hl : d.length < 8) (hx : 0 <= x /\ x <= most) (h1 : ∀ j, j < k -> ∀ y, d[j]? = some y -> y <= x) (h2 : ∀ y, d[k]? = some y -> x < y) : Faces most (d.take k ++ [x] ++ d.drop k) where
 le := by rw [ins_len]; omega
 ok y hy := by
  rcases List.mem_append.1 hy with hy | hy
  ·rcases List.mem_append.1 hy with hy | hy
   ·exact h.ok y (List.mem_of_mem_take hy)
   ·rw [List.mem_singleton.1 hy]; exact hx
  ·exact h.ok y (List.mem_of_mem_drop hy)
 srt := ins_srt h.srt h1 h2

theorem l19_3_all {pg : Pg} {A : TV} {l : List Int} (hA : SV A l) (hl : l.length <= 9223372036854775807) {most : Nat} (hm : most <= 1000) {base : Nat} {H0 : Heap} : ∀ (n i : Nat) (d : List Int) (O : TV) (H : Heap), i + n = min l.length 8 -> Faces most d -> d.length = i -> RowInv base H0 H O d ->
  ∃ d' O' H', den pg l19_3 [(0, A), (1, .i .i64 (most : Int)), (5, O), (6, .i .i64 (i : Int))] H = some ⟨.exit 0, [(0, A), (1, .i .i64 (most : Int)), (5, O'), (6, .i .i64 ((min l.length 8 : Nat) : Int)), (17, .b false)], H'⟩ /\ Faces most d' /\ d'.length = min l.length 8 /\ RowInv base H0 H' O' d'
 | 0, i, d, O, H, hi, hf, hd, hr => by
  obtain rfl : i = min l.length 8 := by omega
  refine ⟨d, O, H, ?_, hf, hd, hr⟩
  have ln := (hA.view H).lenK
  rw [l19_3, den_loop]
  by_cases h8 : l.length < 8
  ·obtain ⟨m, hmm⟩ : ∃ m, m = min l.length 8 := ⟨_, rfl⟩
   have d0 : decide ((m : Int) < (l.length : Int)) = false := dF (by omega)
   rw [<- hmm]
   simp (disch := omega) [b19_2, Z0, Z1, Z2, Z3, Z4, Z5, Z6, Z7, Z8, Z9, Za, Zb, Zc, Zd, Ze, Zf, Zg, Zh, Zi, Zj, Zk, Zl, Zm, Zn, Zo, Zp, Zq, Zr, Zs, Zt, Zu, Zv, Zw, Zx, k_mv, Zy, Zz, ZA, ZB, ZC, ZD, ZE, ZF, ZG, ZH, ZI, ZJ, ZK, ZL, ZM, ZN, ZO, ZP, ZQ, ZR, ZS, ZT, ZU, ZV, ZW, ZX, ZY, ZZ, Y0, Y1, Y2, Y3, Y4, k_mn, k_mx, Y5, Y6, Y7, Y8, Y9, Ya, Yb, Yc, Yd, Ye, Yf, Yg, Yh, Dn.setLast, Dn.getLast, evalO, mapO, Dn.get, putE, Yi, Yj, Yk, Yl, TV.one, TV.isAgg, Dn.part, Ym, negb, at0, at1, at2, at3, at4, dT, dF, Yn, Option.bind_some, Option.map_some, ln, d0]
  ·have hm8 : min l.length 8 = 8 := by omega
   rw [hm8]
   by_cases h9 : (8 : Int) < (l.length : Int)
   ·have d0 : decide (((8 : Nat) : Int) < (l.length : Int)) = true := dT (by omega)
    simp (disch := omega) [b19_2, Z0, Z1, Z2, Z3, Z4, Z5, Z6, Z7, Z8, Z9, Za, Zb, Zc, Zd, Ze, Zf, Zg, Zh, Zi, Zj, Zk, Zl, Zm, Zn, Zo, Zp, Zq, Zr, Zs, Zt, Zu, Zv, Zw, Zx, k_mv, Zy, Zz, ZA, ZB, ZC, ZD, ZE, ZF, ZG, ZH, ZI, ZJ, ZK, ZL, ZM, ZN, ZO, ZP, ZQ, ZR, ZS, ZT, ZU, ZV, ZW, ZX, ZY, ZZ, Y0, Y1, Y2, Y3, Y4, k_mn, k_mx, Y5, Y6, Y7, Y8, Y9, Ya, Yb, Yc, Yd, Ye, Yf, Yg, Yh, Dn.setLast, Dn.getLast, evalO, mapO, Dn.get, putE, Yi, Yj, Yk, Yl, TV.one, TV.isAgg, Dn.part, Ym, negb, at0, at1, at2, at3, at4, dT, dF, Yn, Option.bind_some, Option.map_some, ln, h9]
   ·have d0 : decide (((8 : Nat) : Int) < (l.length : Int)) = false := dF (by omega)
    simp (disch := omega) [b19_2, Z0, Z1, Z2, Z3, Z4, Z5, Z6, Z7, Z8, Z9, Za, Zb, Zc, Zd, Ze, Zf, Zg, Zh, Zi, Zj, Zk, Zl, Zm, Zn, Zo, Zp, Zq, Zr, Zs, Zt, Zu, Zv, Zw, Zx, k_mv, Zy, Zz, ZA, ZB, ZC, ZD, ZE, ZF, ZG, ZH, ZI, ZJ, ZK, ZL, ZM, ZN, ZO, ZP, ZQ, ZR, ZS, ZT, ZU, ZV, ZW, ZX, ZY, ZZ, Y0, Y1, Y2, Y3, Y4, k_mn, k_mx, Y5, Y6, Y7, Y8, Y9, Ya, Yb, Yc, Yd, Ye, Yf, Yg, Yh, Dn.setLast, Dn.getLast, evalO, mapO, Dn.get, putE, Yi, Yj, Yk, Yl, TV.one, TV.isAgg, Dn.part, Ym, negb, at0, at1, at2, at3, at4, dT, dF, Yn, Option.bind_some, Option.map_some, ln, h9]
 | n + 1, i, d, O, H, hi, hf, hd, hr => by
  have ln := (hA.view H).lenK
  have hil : i < l.length := by omega
  obtain ⟨v, hv⟩ : ∃ v, l[i]? = some v := ⟨_, List.getElem?_eq_getElem hil⟩
  obtain ⟨p, p1, p2⟩ := ixI (pg := pg) (R := den pg) (hA.view H) hv
  have dk : decide ((i : Int) < (l.length : Int)) = true := dT (by omega)
  obtain ⟨w, m, c1, c2, c3, c4⟩ := conv_rem v (n := most + 1) (by omega) (by omega)
  have w1 : wrapR .i64 ((most : Int) + 1) = .i .i64 ((most + 1 : Nat) : Int) := by rw [<- Int.natCast_succ]; exact Yn (by omega)
  have w2 : wrapR .u64 ((most + 1 : Nat) : Int) = .i .u64 ((most + 1 : Nat) : Int) := wrap_u (by omega)
  obtain ⟨k, q1, q2, q3, q4⟩ := l19_1_all (pg := pg) (A := A) (M := .i .i64 (most : Int)) (I := .i .i64 (i : Int)) (x := (m : Int)) hr.own (by omega) d.length 0 (by omega) (fun j hj => by omega)
  simp only [Int.natCast_zero] at q1
  obtain ⟨v1, s1, s2⟩ := slcTo hr.own.view q2
  obtain ⟨t1, H1, a1, a2⟩ := Row.cat (RowInv.nil H) s2 (by simp; omega)
  rw [List.nil_append] at a2
  obtain ⟨t2, H2, b1, b2⟩ := a2.push (m : Int) (by rw [List.length_take]; omega)
  have hO2 : elI.Own H2 O d := hr.own.mono fun id hid => b2.old id (hr.own.lt id hid)
  obtain ⟨v3, s3, s4⟩ := slcFrom hO2.view q2
  obtain ⟨t3, H3, e1, e2⟩ := Row.cat b2 s4 (by simp only [List.length_append, List.length_take, List.length_drop, List.length_singleton]; omega)
  obtain ⟨d', O', H', r1, r2, r3, r4⟩ := l19_3_all (pg := pg) hA hl hm (base := base) (H0 := H0) n (i + 1) (d.take k ++ [(m : Int)] ++ d.drop k) t3 H3 (by omega) (ins_faces hf (by omega) (by omega) q3 q4) (by rw [ins_len]; omega) (Row.base hr e2)
  refine ⟨d', O', H', Eq.trans ?_ r1, r2, r3, r4⟩
  rw [l19_3, den_loop]
  generalize ((most + 1 : Nat) : Int) = M1 at *
  simp (disch := omega) [l19_3, b19_2, Z0, Z1, Z2, Z3, Z4, Z5, Z6, Z7, Z8, Z9, Za, Zb, Zc, Zd, Ze, Zf, Zg, Zh, Zi, Zj, Zk, Zl, Zm, Zn, Zo, Zp, Zq, Zr, Zs, Zt, Zu, Zv, Zw, Zx, k_mv, Zy, Zz, ZA, ZB, ZC, ZD, ZE, ZF, ZG, ZH, ZI, ZJ, ZK, ZL, ZM, ZN, ZO, ZP, ZQ, ZR, ZS, ZT, ZU, ZV, ZW, ZX, ZY, ZZ, Y0, Y1, Y2, Y3, Y4, k_mn, k_mx, Y5, Y6, Y7, Y8, Y9, Ya, Yb, Yc, Yd, Ye, Yf, Yg, Yh, Dn.setLast, Dn.getLast, evalO, mapO, Dn.get, putE, Yi, Yj, Yk, Yl, TV.one, TV.isAgg, Dn.part, Ym, negb, at0, at1, at2, at3, at4, dT, dF, Yn, Option.bind_some, Option.map_some, ln, dk, p1, p2, c1, w1, w2, c2, c4, go_denK (c := l19_1) rfl, q1, s1, a1, b1, s3, e1]

end Go.Proofs.Try.Dn

/-
 Dice of any numbers: a die, a row of them.
-/

namespace Go.Proofs.Try.Dn
open Go.Dn

theorem body19 {pg : Pg} (hF : Free pg) {A : TV} {l : List Int} (hA : SV A l) (hl : l.length <= 9223372036854775807) {most : Nat} (hm : most <= 1000) (H : Heap) :
  ∃ d t H', bodyRun pg (den pg) 19 [A, .i .i64 (most : Int)] H = some (t, H') /\ DieL most d /\ Cut H' t d /\ (∀ j, j < H.length -> H'[j]? = H[j]?) /\ (∀ id, t.idOf = some id -> H.length <= id) /\ H.length <= H'.length := by
 obtain ⟨d, O, H1, r1, r2, r3, r4⟩ := l19_3_all (pg := pg) hA hl hm (base := H.length) (H0 := H) (min l.length 8) 0 [] .nilsl H (by omega) ⟨by simp, by simp, List.Pairwise.nil⟩ rfl (RowInv.nil H)
 have ln := r4.own.view.lenK
 simp only [Int.natCast_zero] at r1
 obtain ⟨M, hM⟩ : ∃ M : Nat, M = min l.length 8 := ⟨_, rfl⟩
 rw [<- hM] at r1 r3
 by_cases h0 : M = 0
 ·have hd0 : d.length = 0 := by omega
  refine ⟨[0], .sl H1.length 0 1 false 1 (some 1), H1 ++ [.cells [.i .i64 0] false], body_of (x := .ret) (e := [(4, .sl H1.length 0 1 false 1 (some 1))]) (d := d19) (by rw [hF.F]; rfl) rfl ?_ (.inl rfl) rfl, ⟨⟨by simp, fun x hx => by rw [List.mem_singleton.1 hx]; omega, List.pairwise_singleton _ _⟩, by simp⟩, .lit H1 0, fun j hj => ?_, fun id hid => ?_, ?_⟩
  ·rw [hd0] at ln
   simp (disch := omega) [d19, c19, zipE, Z0, Z1, Z2, Z3, Z4, Z5, Z6, Z7, Z8, Z9, Za, Zb, Zc, Zd, Ze, Zf, Zg, Zh, Zi, Zj, Zk, Zl, Zm, Zn, Zo, Zp, Zq, Zr, Zs, Zt, Zu, Zv, Zw, Zx, k_mv, Zy, Zz, ZA, ZB, ZC, ZD, ZE, ZF, ZG, ZH, ZI, ZJ, ZK, ZL, ZM, ZN, ZO, ZP, ZQ, ZR, ZS, ZT, ZU, ZV, ZW, ZX, ZY, ZZ, Y0, Y1, Y2, Y3, Y4, k_mn, k_mx, Y5, Y6, Y7, Y8, Y9, Ya, Yb, Yc, Yd, Ye, Yf, Yg, Yh, Dn.setLast, Dn.getLast, evalO, mapO, Dn.get, putE, Yi, Yj, Yk, Yl, TV.one, TV.isAgg, Dn.part, Ym, negb, at0, at1, at2, at3, at4, dT, dF, Yn, Option.bind_some, Option.map_some, go_denK (c := l19_3) rfl, r1, ln]
  ·have := r4.len
   rw [List.getElem?_append_left (by omega), r4.old j hj]
  ·cases hid; exact r4.len
  ·have := r4.len; simp; omega
 ·refine ⟨d, O, H1, body_of (x := .ret) (e := [(4, O)]) (d := d19) (by rw [hF.F]; rfl) rfl ?_ (.inl rfl) rfl, ⟨r2, by omega⟩, .own r4.own, r4.old, r4.new, r4.len⟩
  have e0 : ((d.length : Int) == 0) = false := beqF (by omega)
  have n0 : ¬ ((d.length : Int) = 0) := by omega
  have hne : ¬ d = [] := by rintro rfl; simp at r3; omega
  simp (disch := omega) [d19, c19, zipE, Z0, Z1, Z2, Z3, Z4, Z5, Z6, Z7, Z8, Z9, Za, Zb, Zc, Zd, Ze, Zf, Zg, Zh, Zi, Zj, Zk, Zl, Zm, Zn, Zo, Zp, Zq, Zr, Zs, Zt, Zu, Zv, Zw, Zx, k_mv, Zy, Zz, ZA, ZB, ZC, ZD, ZE, ZF, ZG, ZH, ZI, ZJ, ZK, ZL, ZM, ZN, ZO, ZP, ZQ, ZR, ZS, ZT, ZU, ZV, ZW, ZX, ZY, ZZ, Y0, Y1, Y2, Y3, Y4, k_mn, k_mx, Y5, Y6, Y7, Y8, Y9, Ya, Yb, Yc, Yd, Ye, Yf, Yg, Yh, Dn.setLast, Dn.getLast, evalO, mapO, Dn.get, putE, Yi, Yj, Yk, Yl, TV.one, TV.isAgg, Dn.part, Ym, negb, at0, at1, at2, at3, at4, dT, dF, Yn, Option.bind_some, Option.map_some, go_denK (c := l19_3) rfl, r1, ln, n0, e0, hne]

structure Row (most : Int) (n : Nat) (ls : List (List Int)) : Prop where
 all : ∀ d ∈ ls, DieL most d
 pos : 1 <= ls.length
 le : ls.length <= n

theorem l28_1_all {pg : Pg} (hF : Free pg) {T N : TV} {l : List (List Int)} (hT : SSV T l) (hl : l.length <= 9223372036854775807) (hL : ∀ x ∈ l, x.length <= 9223372036854775807) {many most : Nat} (h6 : many <= 1000) (hm : most <= 1000) : ∀ (n i : Nat) (O : TV) (ts : List {t : TV // t.one = true}) (ls : List (List Int)) (H : Heap), i + n = min l.length many -> NestC H O ts ls -> ls.length = i -> (∀ d ∈ ls, DieL most d) ->
  ∃ O' ts' ls' H', den pg l28_1 [(0, T), (1, .i .i64 (many : Int)), (2, .i .i64 (most : Int)), (7, O), (8, .i .i64 (i : Int))] H = some ⟨.exit 0, [(0, T), (1, .i .i64 (many : Int)), (2, .i .i64 (most : Int)), (7, O'), (8, .i .i64 ((min l.length many : Nat) : Int)), (17, .b false)], H'⟩ /\ NestC H' O' ts' ls' /\ ls'.length = min l.length many /\ ∀ d ∈ ls', DieL most d
 | 0, i, O, ts, ls, H, hi, hO, hd, ha => by
  obtain rfl : i = min l.length many := by omega
  refine ⟨O, ts, ls, H, ?_, hO, hd, ha⟩
  have ln := hT.len H
  rw [l28_1, den_loop]
  by_cases h8 : l.length <= many
  ·obtain ⟨m, hmm⟩ : ∃ m, m = min l.length many := ⟨_, rfl⟩
   have d0 : decide ((m : Int) < (l.length : Int)) = false := dF (by omega)
   rw [<- hmm]
   simp (disch := omega) [b28_0, Z0, Z1, Z2, Z3, Z4, Z5, Z6, Z7, Z8, Z9, Za, Zb, Zc, Zd, Ze, Zf, Zg, Zh, Zi, Zj, Zk, Zl, Zm, Zn, Zo, Zp, Zq, Zr, Zs, Zt, Zu, Zv, Zw, Zx, k_mv, Zy, Zz, ZA, ZB, ZC, ZD, ZE, ZF, ZG, ZH, ZI, ZJ, ZK, ZL, ZM, ZN, ZO, ZP, ZQ, ZR, ZS, ZT, ZU, ZV, ZW, ZX, ZY, ZZ, Y0, Y1, Y2, Y3, Y4, k_mn, k_mx, Y5, Y6, Y7, Y8, Y9, Ya, Yb, Yc, Yd, Ye, Yf, Yg, Yh, Dn.setLast, Dn.getLast, evalO, mapO, Dn.get, putE, Yi, Yj, Yk, Yl, TV.one, TV.isAgg, Dn.part, Ym, negb, at0, at1, at2, at3, at4, dT, dF, Yn, Option.bind_some, Option.map_some, ln, d0]
  ·have hm8 : min l.length many = many := by omega
   rw [hm8]
   have d0 : decide ((many : Int) < (l.length : Int)) = true := dT (by omega)
   simp (disch := omega) [b28_0, Z0, Z1, Z2, Z3, Z4, Z5, Z6, Z7, Z8, Z9, Za, Zb, Zc, Zd, Ze, Zf, Zg, Zh, Zi, Zj, Zk, Zl, Zm, Zn, Zo, Zp, Zq, Zr, Zs, Zt, Zu, Zv, Zw, Zx, k_mv, Zy, Zz, ZA, ZB, ZC, ZD, ZE, ZF, ZG, ZH, ZI, ZJ, ZK, ZL, ZM, ZN, ZO, ZP, ZQ, ZR, ZS, ZT, ZU, ZV, ZW, ZX, ZY, ZZ, Y0, Y1, Y2, Y3, Y4, k_mn, k_mx, Y5, Y6, Y7, Y8, Y9, Ya, Yb, Yc, Yd, Ye, Yf, Yg, Yh, Dn.setLast, Dn.getLast, evalO, mapO, Dn.get, putE, Yi, Yj, Yk, Yl, TV.one, TV.isAgg, Dn.part, Ym, negb, at0, at1, at2, at3, at4, dT, dF, Yn, Option.bind_some, Option.map_some, ln, d0]
 | n + 1, i, O, ts, ls, H, hi, hO, hd, ha => by
  have ln := hT.len H
  have hil : i < l.length := by omega
  obtain ⟨v, hv⟩ : ∃ v, l[i]? = some v := ⟨_, List.getElem?_eq_getElem hil⟩
  obtain ⟨p, a, p1, p2, p3⟩ := hT.ix (pg := pg) (R := den pg) hv H
  have dk : decide ((i : Int) < (l.length : Int)) = true := dT (by omega)
  have dm : decide ((i : Int) < (many : Int)) = true := dT (by omega)
  obtain ⟨d, t, H1, b1, b2, b3, b4, b5, b6⟩ := body19 (pg := pg) hF p3 (hL v (List.mem_of_getElem? hv)) hm H
  have hO1 : NestC H1 O ts ls := hO.mono fun id hid => b4 id hid
  have bs := k_bslC (pg := pg) (R := den pg) b3.one.1 b3.one.2.2 H1
  obtain ⟨O2, H2, r, c1, c2, c3⟩ := hO1.app b3 (fun id hid he => by have := b5 id hid; have := hO.own.lt id he; omega) (fun j u id hu hid he => by have := b5 id hid; have := hO.lt hu he; omega) (by omega)
  obtain ⟨O', ts', ls', H', r1, r2, r3, r4⟩ := l28_1_all hF (N := N) hT hl hL h6 hm n (i + 1) O2 _ _ H2 (by omega) c2 (by simp; omega) (fun x hx => by
   rcases List.mem_append.1 hx with hx | hx
   ·exact ha x hx
   ·rw [List.mem_singleton.1 hx]; exact b2)
  refine ⟨O', ts', ls', H', Eq.trans ?_ r1, r2, r3, r4⟩
  rw [l28_1, den_loop]
  simp (disch := omega) [l28_1, b28_0, Z0, Z1, Z2, Z3, Z4, Z5, Z6, Z7, Z8, Z9, Za, Zb, Zc, Zd, Ze, Zf, Zg, Zh, Zi, Zj, Zk, Zl, Zm, Zn, Zo, Zp, Zq, Zr, Zs, Zt, Zu, Zv, Zw, Zx, k_mv, Zy, Zz, ZA, ZB, ZC, ZD, ZE, ZF, ZG, ZH, ZI, ZJ, ZK, ZL, ZM, ZN, ZO, ZP, ZQ, ZR, ZS, ZT, ZU, ZV, ZW, ZX, ZY, ZZ, Y0, Y1, Y2, Y3, Y4, k_mn, k_mx, Y5, Y6, Y7, Y8, Y9, Ya, Yb, Yc, Yd, Ye, Yf, Yg, Yh, Dn.setLast, Dn.getLast, evalO, mapO, Dn.get, putE, Yi, Yj, Yk, Yl, TV.one, TV.isAgg, Dn.part, Ym, negb, at0, at1, at2, at3, at4, dT, dF, Yn, Option.bind_some, Option.map_some, ln, dk, dm, p1, p2, sh_fn, b1, bs, c1]

theorem body28 {pg : Pg} (hF : Free pg) {T : TV} {l : List (List Int)} (hT : SSV T l) (hl : l.length <= 9223372036854775807) (hL : ∀ x ∈ l, x.length <= 9223372036854775807) {many most : Nat} (h1 : 1 <= many) (h6 : many <= 1000) (hm : most <= 1000) :
  ∃ ls O ts H', bodyRun pg (den pg) 28 [T, .i .i64 (many : Int), .i .i64 (most : Int)] [] = some (O, H') /\ Row most many ls /\ NestW H' O ts ls := by
 obtain ⟨O, ts, ls, H1, r1, r2, r3, r4⟩ := l28_1_all (pg := pg) hF (N := .undef) hT hl hL h6 hm (min l.length many) 0 .nilsl [] [] [] (by omega) (NestC.nil []) rfl (by simp)
 have ln := r2.own.view.lenK
 have hts := r2.len
 obtain ⟨K, hK⟩ : ∃ K, K = ts.length := ⟨_, rfl⟩
 rw [<- hK] at ln
 simp only [Int.natCast_zero] at r1
 obtain ⟨M, hM⟩ : ∃ M : Nat, M = min l.length many := ⟨_, rfl⟩
 rw [<- hM] at r1 r3
 by_cases h0 : M = 0
 ·have hd0 : K = 0 := by omega
  subst hd0
  have k1 := Cut.lit H1 0
  obtain ⟨H2, hH2⟩ : ∃ H2, H2 = H1 ++ [AObj.cells [.i .i64 0] false] := ⟨_, rfl⟩
  rw [<- hH2] at k1
  have bs := k_bslC (pg := pg) (R := den pg) k1.one.1 k1.one.2.2 H2
  have k2 := NestW.lit k1
  obtain ⟨ts', k2⟩ := k2
  refine ⟨[[0]], _, ts', _, body_of (x := .ret) (e := [(6, .sl H2.length 0 1 false 1 (some 1))]) (H' := H2 ++ [.cells [.sl H1.length 0 1 false 1 (some 1)] false]) (d := d28) (by rw [hF.F]; rfl) rfl ?_ (.inl rfl) rfl, ⟨fun d hd => by
   rw [List.mem_singleton.1 hd]
   exact ⟨⟨by simp, fun x hx => by rw [List.mem_singleton.1 hx]; omega, List.pairwise_singleton _ _⟩, by simp⟩, by simp, by simpa using h1⟩, k2⟩
  have bl : dkc pg (den pg) (.bsl false [.i .i64 0] false 1 [0]) [.i .i64 0] H1 = some (.sl H1.length 0 1 false 1 (some 1), H2) := by rw [hH2]; exact Y7 ..
  simp (disch := omega) [d28, c28, zipE, Z0, Z1, Z2, Z3, Z4, Z5, Z6, Z7, Z8, Z9, Za, Zb, Zc, Zd, Ze, Zf, Zg, Zh, Zi, Zj, Zk, Zl, Zm, Zn, Zo, Zp, Zq, Zr, Zs, Zt, Zu, Zv, Zw, Zx, k_mv, Zy, Zz, ZA, ZB, ZC, ZD, ZE, ZF, ZG, ZH, ZI, ZJ, ZK, ZL, ZM, ZN, ZO, ZP, ZQ, ZR, ZS, ZT, ZU, ZV, ZW, ZX, ZY, ZZ, Y0, Y1, Y2, Y3, Y4, k_mn, k_mx, Y5, Y6, Y7, Y8, Y9, Ya, Yb, Yc, Yd, Ye, Yf, Yg, Yh, Dn.setLast, Dn.getLast, evalO, mapO, Dn.get, putE, Yi, Yj, Yk, Yl, TV.one, TV.isAgg, Dn.part, Ym, negb, at0, at1, at2, at3, at4, dT, dF, Yn, Option.bind_some, Option.map_some, go_denK (c := l28_1) rfl, r1, ln, bl, bs]
 ·refine ⟨ls, O, ts, H1, body_of (x := .ret) (e := [(6, O)]) (d := d28) (by rw [hF.F]; rfl) rfl ?_ (.inl rfl) rfl, ⟨r4, by omega, by omega⟩, r2.w⟩
  have n0 : ¬ (K = 0) := by omega
  simp (disch := omega) [d28, c28, zipE, Z0, Z1, Z2, Z3, Z4, Z5, Z6, Z7, Z8, Z9, Za, Zb, Zc, Zd, Ze, Zf, Zg, Zh, Zi, Zj, Zk, Zl, Zm, Zn, Zo, Zp, Zq, Zr, Zs, Zt, Zu, Zv, Zw, Zx, k_mv, Zy, Zz, ZA, ZB, ZC, ZD, ZE, ZF, ZG, ZH, ZI, ZJ, ZK, ZL, ZM, ZN, ZO, ZP, ZQ, ZR, ZS, ZT, ZU, ZV, ZW, ZX, ZY, ZZ, Y0, Y1, Y2, Y3, Y4, k_mn, k_mx, Y5, Y6, Y7, Y8, Y9, Ya, Yb, Yc, Yd, Ye, Yf, Yg, Yh, Dn.setLast, Dn.getLast, evalO, mapO, Dn.get, putE, Yi, Yj, Yk, Yl, TV.one, TV.isAgg, Dn.part, Ym, negb, at0, at1, at2, at3, at4, dT, dF, Yn, Option.bind_some, Option.map_some, go_denK (c := l28_1) rfl, r1, ln, n0]

end Go.Proofs.Try.Dn

/-
 What dice are.
-/

namespace Go.Proofs.Try.Dn
open Go.Dn

theorem fn110 {pg : Pg} (hF : Free pg) (a : Int) : PFn pg 110 [.i .i64 a] (.b false) := by
 refine .of1 (x := .ret) (e := [(2, .b false)]) (H' := []) (hF.S _ _) (d := d110) (by rw [hF.F]; rfl) rfl ?_ (.inl rfl) rfl (by simp [sn_i, sn_b, Yo, Yp, Yq, Yr, Ys, Yt, Yu, Yv, Yw, Yx, Yy, Yz, mapO, elems])
 simp (disch := omega) [d110, c110, zipE, Z0, Z1, Z2, Z3, Z4, Z5, Z6, Z7, Z8, Z9, Za, Zb, Zc, Zd, Ze, Zf, Zg, Zh, Zi, Zj, Zk, Zl, Zm, Zn, Zo, Zp, Zq, Zr, Zs, Zt, Zu, Zv, Zw, Zx, k_mv, Zy, Zz, ZA, ZB, ZC, ZD, ZE, ZF, ZG, ZH, ZI, ZJ, ZK, ZL, ZM, ZN, ZO, ZP, ZQ, ZR, ZS, ZT, ZU, ZV, ZW, ZX, ZY, ZZ, Y0, Y1, Y2, Y3, Y4, k_mn, k_mx, Y5, Y6, Y7, Y8, Y9, Ya, Yb, Yc, Yd, Ye, Yf, Yg, Yh, Dn.setLast, Dn.getLast, evalO, mapO, Dn.get, putE, Yi, Yj, Yk, Yl, TV.one, TV.isAgg, Dn.part, Ym, negb, at0, at1, at2, at3, at4, dT, dF, Yn, Option.bind_some, Option.map_some]

theorem fn109 {pg : Pg} (hF : Free pg) (a b : Int) : PFn pg 109 [.i .i64 a, .i .i64 b] (.b (decide (a < b))) := by
 have c1 := fun H => PFn.call (fn110 hF a) (args := [.i .i64 a]) (ks := []) (fs := []) (cs := []) (H := H) (by simp [snapArgs, sn_i])
 have c2 := fun H => PFn.call (fn110 hF b) (args := [.i .i64 b]) (ks := []) (fs := []) (cs := []) (H := H) (by simp [snapArgs, sn_i])
 refine .of1 (x := .ret) (e := [(4, .b (decide (a < b)))]) (H' := []) (hF.S _ _) (d := d109) (by rw [hF.F]; rfl) rfl ?_ (.inl rfl) rfl (by simp [sn_i, sn_b, Yo, Yp, Yq, Yr, Ys, Yt, Yu, Yv, Yw, Yx, Yy, Yz, mapO, elems])
 simp (disch := omega) [d109, c109, zipE, Z0, Z1, Z2, Z3, Z4, Z5, Z6, Z7, Z8, Z9, Za, Zb, Zc, Zd, Ze, Zf, Zg, Zh, Zi, Zj, Zk, Zl, Zm, Zn, Zo, Zp, Zq, Zr, Zs, Zt, Zu, Zv, Zw, Zx, k_mv, Zy, Zz, ZA, ZB, ZC, ZD, ZE, ZF, ZG, ZH, ZI, ZJ, ZK, ZL, ZM, ZN, ZO, ZP, ZQ, ZR, ZS, ZT, ZU, ZV, ZW, ZX, ZY, ZZ, Y0, Y1, Y2, Y3, Y4, k_mn, k_mx, Y5, Y6, Y7, Y8, Y9, Ya, Yb, Yc, Yd, Ye, Yf, Yg, Yh, Dn.setLast, Dn.getLast, evalO, mapO, Dn.get, putE, Yi, Yj, Yk, Yl, TV.one, TV.isAgg, Dn.part, Ym, negb, at0, at1, at2, at3, at4, dT, dF, Yn, Option.bind_some, Option.map_some, c1, c2]

theorem call109 {pg : Pg} (hF : Free pg) (a b : Int) (H : Heap) : callRun pg (den pg) (.pu []) [.fn 109 [] [], .i .i64 a, .i .i64 b] H = some (.b (decide (a < b)), H) :=
 PFn.call (fn109 hF a b) (args := [.i .i64 a, .i .i64 b]) (ks := []) (fs := []) (cs := []) (by simp [snapArgs, sn_i])

def risesTo (l : List Int) (i : Nat) : Prop := ∀ j, i < j -> ∀ a b, l[j - 1]? = some a -> l[j]? = some b -> a <= b

theorem rises_srt : ∀ {l : List Int}, (∀ j, 0 < j -> ∀ a b, l[j - 1]? = some a -> l[j]? = some b -> a <= b) -> l.Pairwise (· <= ·)
 | [], _ => .nil
 | [a], _ => List.pairwise_singleton _ _
 | a :: b :: l, h => by
  have ih : (b :: l).Pairwise (· <= ·) := rises_srt fun j hj x y hx hy => h (j + 1) (by omega) x y (by
   cases j with
   | zero => omega
   | succ j => simpa using hx) (by simpa using hy)
  have hab := h 1 (by omega) a b rfl rfl
  refine List.pairwise_cons.2 ⟨fun x hx => ?_, ih⟩
  rcases List.mem_cons.1 hx with rfl | hx
  ·exact hab
  ·have := (List.pairwise_cons.1 ih).1 x hx
   omega

theorem srt_at {l : List Int} (h : l.Pairwise (· <= ·)) {i j : Nat} {a b : Int} (hij : i <= j) (ha : l[i]? = some a) (hb : l[j]? = some b) : a <= b := by
 obtain ⟨hi, rfl⟩ := List.getElem?_eq_some_iff.1 ha
 obtain ⟨hj, rfl⟩ := List.getElem?_eq_some_iff.1 hb
 rcases Nat.lt_or_eq_of_le hij with h1 | rfl
 ·exact List.pairwise_iff_getElem.1 h i j hi hj h1
 ·exact Int.le_refl _

theorem l102_1_all {pg : Pg} (hF : Free pg) {A : TV} {l : List Int} (hA : SV A l) (hl : l.length <= 1000000) {H : Heap} : ∀ (i : Nat), i < l.length -> risesTo l i ->
  (∃ e, den pg l102_1 [(0, A), (3, .i .i64 (i : Int))] H = some ⟨.exit 0, e, H⟩ /\ l.Pairwise (· <= ·)) \/ (den pg l102_1 [(0, A), (3, .i .i64 (i : Int))] H = some ⟨.ret, [(2, .b false)], H⟩ /\ ¬ l.Pairwise (· <= ·))
 | 0, hi, hr => by
  refine .inl ⟨_, by
   rw [l102_1, den_loop]
   simp (disch := omega) [b102_0, Z0, Z1, Z2, Z3, Z4, Z5, Z6, Z7, Z8, Z9, Za, Zb, Zc, Zd, Ze, Zf, Zg, Zh, Zi, Zj, Zk, Zl, Zm, Zn, Zo, Zp, Zq, Zr, Zs, Zt, Zu, Zv, Zw, Zx, k_mv, Zy, Zz, ZA, ZB, ZC, ZD, ZE, ZF, ZG, ZH, ZI, ZJ, ZK, ZL, ZM, ZN, ZO, ZP, ZQ, ZR, ZS, ZT, ZU, ZV, ZW, ZX, ZY, ZZ, Y0, Y1, Y2, Y3, Y4, k_mn, k_mx, Y5, Y6, Y7, Y8, Y9, Ya, Yb, Yc, Yd, Ye, Yf, Yg, Yh, Dn.setLast, Dn.getLast, evalO, mapO, Dn.get, putE, Yi, Yj, Yk, Yl, TV.one, TV.isAgg, Dn.part, Ym, negb, at0, at1, at2, at3, at4, dT, dF, Yn, Option.bind_some, Option.map_some]
   rfl, rises_srt hr⟩
 | i + 1, hi, hr => by
  obtain ⟨b, hb⟩ : ∃ b, l[i + 1]? = some b := ⟨_, List.getElem?_eq_getElem hi⟩
  obtain ⟨a, ha⟩ : ∃ a, l[i]? = some a := ⟨_, List.getElem?_eq_getElem (by omega)⟩
  obtain ⟨p, p1, p2⟩ := ixI (pg := pg) (R := den pg) (hA.view H) hb
  obtain ⟨q, q1, q2⟩ := ixI (pg := pg) (R := den pg) (hA.view H) ha
  have c := call109 hF b a H
  obtain ⟨I, hI⟩ : ∃ I : Int, I = ((i + 1 : Nat) : Int) := ⟨_, rfl⟩
  have wI : wrapR .i64 (I - 1) = .i .i64 (i : Int) := by rw [show I - 1 = (i : Int) by omega]; exact Yn (by omega)
  rw [<- hI] at p1 ⊢
  by_cases hba : b < a
  ·refine .inr ⟨?_, fun h => by have := srt_at h (by omega) ha hb; omega⟩
   rw [l102_1, den_loop]
   simp (disch := omega) [b102_0, Z0, Z1, Z2, Z3, Z4, Z5, Z6, Z7, Z8, Z9, Za, Zb, Zc, Zd, Ze, Zf, Zg, Zh, Zi, Zj, Zk, Zl, Zm, Zn, Zo, Zp, Zq, Zr, Zs, Zt, Zu, Zv, Zw, Zx, k_mv, Zy, Zz, ZA, ZB, ZC, ZD, ZE, ZF, ZG, ZH, ZI, ZJ, ZK, ZL, ZM, ZN, ZO, ZP, ZQ, ZR, ZS, ZT, ZU, ZV, ZW, ZX, ZY, ZZ, Y0, Y1, Y2, Y3, Y4, k_mn, k_mx, Y5, Y6, Y7, Y8, Y9, Ya, Yb, Yc, Yd, Ye, Yf, Yg, Yh, Dn.setLast, Dn.getLast, evalO, mapO, Dn.get, putE, Yi, Yj, Yk, Yl, TV.one, TV.isAgg, Dn.part, Ym, negb, at0, at1, at2, at3, at4, dT, dF, Yn, Option.bind_some, Option.map_some, p1, p2, q1, q2, c, wI, hba]
  ·have e : den pg l102_1 [(0, A), (3, .i .i64 I)] H = den pg l102_1 [(0, A), (3, .i .i64 (i : Int))] H := by
    rw [l102_1, den_loop]
    simp (disch := omega) [l102_1, b102_0, Z0, Z1, Z2, Z3, Z4, Z5, Z6, Z7, Z8, Z9, Za, Zb, Zc, Zd, Ze, Zf, Zg, Zh, Zi, Zj, Zk, Zl, Zm, Zn, Zo, Zp, Zq, Zr, Zs, Zt, Zu, Zv, Zw, Zx, k_mv, Zy, Zz, ZA, ZB, ZC, ZD, ZE, ZF, ZG, ZH, ZI, ZJ, ZK, ZL, ZM, ZN, ZO, ZP, ZQ, ZR, ZS, ZT, ZU, ZV, ZW, ZX, ZY, ZZ, Y0, Y1, Y2, Y3, Y4, k_mn, k_mx, Y5, Y6, Y7, Y8, Y9, Ya, Yb, Yc, Yd, Ye, Yf, Yg, Yh, Dn.setLast, Dn.getLast, evalO, mapO, Dn.get, putE, Yi, Yj, Yk, Yl, TV.one, TV.isAgg, Dn.part, Ym, negb, at0, at1, at2, at3, at4, dT, dF, Yn, Option.bind_some, Option.map_some, p1, p2, q1, q2, c, wI, hba]
   rw [e]
   exact l102_1_all hF hA hl i (by omega) fun j hj x y hx hy => by
    by_cases hji : j = i + 1
    ·subst hji
     rw [show i + 1 - 1 = i by omega, ha] at hx
     rw [hb] at hy
     cases hx; cases hy; omega
    ·exact hr j (by omega) x y hx hy

theorem fn102 {pg : Pg} (hF : Free pg) {A : TV} {l : List Int} (hA : SV A l) (hl : l.length <= 1000000) (hp : 1 <= l.length) : PFn pg 102 [A] (.b (decide (l.Pairwise (· <= ·)))) := by
 have ln := (hA.view []).lenK
 obtain ⟨N, hN⟩ : ∃ N, N = l.length - 1 := ⟨_, rfl⟩
 have wN : wrapR .i64 ((l.length : Int) - 1) = .i .i64 (N : Int) := by rw [show (l.length : Int) - 1 = (N : Int) by omega]; exact Yn (by omega)
 refine .of1 (x := .ret) (e := [(2, .b (decide (l.Pairwise (· <= ·))))]) (H' := []) (hF.S _ _) (d := d102) (by rw [hF.F]; rfl) rfl ?_ (.inl rfl) rfl (by simp [sn_i, sn_b, Yo, Yp, Yq, Yr, Ys, Yt, Yu, Yv, Yw, Yx, Yy, Yz, mapO, elems])
 rcases l102_1_all (pg := pg) hF hA hl (H := []) N (by omega) (fun j hj a b ha hb => by
  have := (List.getElem?_eq_some_iff.1 hb).1
  omega) with ⟨e, r1, r2⟩ | ⟨r1, r2⟩
 ·rw [dT r2]
  simp (disch := omega) [d102, c102, zipE, Z0, Z1, Z2, Z3, Z4, Z5, Z6, Z7, Z8, Z9, Za, Zb, Zc, Zd, Ze, Zf, Zg, Zh, Zi, Zj, Zk, Zl, Zm, Zn, Zo, Zp, Zq, Zr, Zs, Zt, Zu, Zv, Zw, Zx, k_mv, Zy, Zz, ZA, ZB, ZC, ZD, ZE, ZF, ZG, ZH, ZI, ZJ, ZK, ZL, ZM, ZN, ZO, ZP, ZQ, ZR, ZS, ZT, ZU, ZV, ZW, ZX, ZY, ZZ, Y0, Y1, Y2, Y3, Y4, k_mn, k_mx, Y5, Y6, Y7, Y8, Y9, Ya, Yb, Yc, Yd, Ye, Yf, Yg, Yh, Dn.setLast, Dn.getLast, evalO, mapO, Dn.get, putE, Yi, Yj, Yk, Yl, TV.one, TV.isAgg, Dn.part, Ym, negb, at0, at1, at2, at3, at4, dT, dF, Yn, Option.bind_some, Option.map_some, ln, wN, go_denK (c := l102_1) rfl, r1]
 ·rw [dF r2]
  simp (disch := omega) [d102, c102, zipE, Z0, Z1, Z2, Z3, Z4, Z5, Z6, Z7, Z8, Z9, Za, Zb, Zc, Zd, Ze, Zf, Zg, Zh, Zi, Zj, Zk, Zl, Zm, Zn, Zo, Zp, Zq, Zr, Zs, Zt, Zu, Zv, Zw, Zx, k_mv, Zy, Zz, ZA, ZB, ZC, ZD, ZE, ZF, ZG, ZH, ZI, ZJ, ZK, ZL, ZM, ZN, ZO, ZP, ZQ, ZR, ZS, ZT, ZU, ZV, ZW, ZX, ZY, ZZ, Y0, Y1, Y2, Y3, Y4, k_mn, k_mx, Y5, Y6, Y7, Y8, Y9, Ya, Yb, Yc, Yd, Ye, Yf, Yg, Yh, Dn.setLast, Dn.getLast, evalO, mapO, Dn.get, putE, Yi, Yj, Yk, Yl, TV.one, TV.isAgg, Dn.part, Ym, negb, at0, at1, at2, at3, at4, dT, dF, Yn, Option.bind_some, Option.map_some, ln, wN, go_denK (c := l102_1) rfl, r1]

def isDieB (l : List Int) : Bool := decide (0 < l.length) && decide (0 <= l.headD 0) && decide (l.getLastD 0 <= 60) && decide (l.Pairwise (· <= ·))

end Go.Proofs.Try.Dn

/-
 What dice are: Check.
-/

namespace Go.Proofs.Try.Dn
open Go.Dn

theorem isDieB_nil : isDieB [] = false := rfl
theorem isDieB_at {l : List Int} {a z : Int} (ha : l[0]? = some a) (hz : l[l.length - 1]? = some z) : isDieB l = (decide (0 <= a) && decide (z <= 60) && decide (l.Pairwise (· <= ·))) := by
 cases l with
 | nil => simp at ha
 | cons x l =>
  have h1 : x = a := by simpa using ha
  have h2 : (x :: l).getLastD 0 = z := by
   rw [List.getLastD_eq_getLast?, List.getLast?_eq_getElem?, hz]
   rfl
  unfold isDieB
  rw [h2, dT (show 0 < (x :: l).length by simp), Bool.true_and]
  subst h1
  rfl

theorem snapSV {A : TV} {l : List Int} (hA : SV A l) (H : Heap) : ∃ A', snapArgs H [] [A] = some [A'] /\ SV A' l := by
 obtain ⟨t', h1, h2⟩ := hA.snap H 7
 exact ⟨t', by simp [snapArgs, h1], h2⟩

theorem body78 {pg : Pg} (hF : Free pg) {A : TV} {l : List Int} (hA : SV A l) (hl : l.length <= 1000000) (H : Heap) : bodyRun pg (den pg) 78 [A] H = some (.b (isDieB l), H) := by
 have ln := (hA.view H).lenK
 refine body_of (x := .ret) (e := [(2, .b (isDieB l))]) (d := d78) (by rw [hF.F]; rfl) rfl ?_ (.inl rfl) rfl
 by_cases h0 : l.length = 0
 ·have : l = [] := List.eq_nil_of_length_eq_zero h0
  subst this
  have ln' : lenK 0 A H = some 0 := ln H
  rw [isDieB_nil]
  simp (disch := omega) [d78, c78, zipE, Z0, Z1, Z2, Z3, Z4, Z5, Z6, Z7, Z8, Z9, Za, Zb, Zc, Zd, Ze, Zf, Zg, Zh, Zi, Zj, Zk, Zl, Zm, Zn, Zo, Zp, Zq, Zr, Zs, Zt, Zu, Zv, Zw, Zx, k_mv, Zy, Zz, ZA, ZB, ZC, ZD, ZE, ZF, ZG, ZH, ZI, ZJ, ZK, ZL, ZM, ZN, ZO, ZP, ZQ, ZR, ZS, ZT, ZU, ZV, ZW, ZX, ZY, ZZ, Y0, Y1, Y2, Y3, Y4, k_mn, k_mx, Y5, Y6, Y7, Y8, Y9, Ya, Yb, Yc, Yd, Ye, Yf, Yg, Yh, Dn.setLast, Dn.getLast, evalO, mapO, Dn.get, putE, Yi, Yj, Yk, Yl, TV.one, TV.isAgg, Dn.part, Ym, negb, at0, at1, at2, at3, at4, dT, dF, Yn, Option.bind_some, Option.map_some, ln']
 ·obtain ⟨a, ha⟩ : ∃ a, l[0]? = some a := ⟨_, List.getElem?_eq_getElem (by omega)⟩
  obtain ⟨z, hz⟩ : ∃ z, l[l.length - 1]? = some z := ⟨_, List.getElem?_eq_getElem (by omega)⟩
  rw [isDieB_at ha hz]
  obtain ⟨p, p1, p2⟩ := ixI (pg := pg) (R := den pg) (hA.view H) ha
  obtain ⟨q, q1, q2⟩ := ixI (pg := pg) (R := den pg) (hA.view H) hz
  obtain ⟨A', s1, s2⟩ := snapSV hA H
  have c102 := PFn.call (fn102 hF s2 hl (by omega)) (args := [A]) (ks := []) (fs := []) (cs := []) (H := H) (by simpa using s1)
  obtain ⟨N, hN⟩ : ∃ N, N = l.length := ⟨_, rfl⟩
  obtain ⟨M, hM⟩ : ∃ M, M = N - 1 := ⟨_, rfl⟩
  rw [<- hN] at ln
  rw [<- hN, <- hM] at q1
  have dN : decide ((0 : Int) < (N : Int)) = true := dT (by omega)
  have wN : wrapR .i64 ((N : Int) - 1) = .i .i64 (M : Int) := by rw [show (N : Int) - 1 = (M : Int) by omega]; exact Yn (by omega)
  simp only [Int.natCast_zero] at p1
  generalize decide (l.Pairwise (· <= ·)) = S at *
  cases h1 : decide (0 <= a) <;> cases h2 : decide (z <= 60) <;> simp only [decide_eq_true_eq, decide_eq_false_iff_not] at h1 h2 <;> cases S <;> simp (disch := omega) [d78, c78, zipE, Z0, Z1, Z2, Z3, Z4, Z5, Z6, Z7, Z8, Z9, Za, Zb, Zc, Zd, Ze, Zf, Zg, Zh, Zi, Zj, Zk, Zl, Zm, Zn, Zo, Zp, Zq, Zr, Zs, Zt, Zu, Zv, Zw, Zx, k_mv, Zy, Zz, ZA, ZB, ZC, ZD, ZE, ZF, ZG, ZH, ZI, ZJ, ZK, ZL, ZM, ZN, ZO, ZP, ZQ, ZR, ZS, ZT, ZU, ZV, ZW, ZX, ZY, ZZ, Y0, Y1, Y2, Y3, Y4, k_mn, k_mx, Y5, Y6, Y7, Y8, Y9, Ya, Yb, Yc, Yd, Ye, Yf, Yg, Yh, Dn.setLast, Dn.getLast, evalO, mapO, Dn.get, putE, Yi, Yj, Yk, Yl, TV.one, TV.isAgg, Dn.part, Ym, negb, at0, at1, at2, at3, at4, dT, dF, Yn, Option.bind_some, Option.map_some, ln, dN, wN, p1, p2, q1, q2, c102, h1, h2]

theorem body76 {pg : Pg} (hF : Free pg) {A : TV} {l : List Int} (hA : SV A l) (H : Heap) : bodyRun pg (den pg) 76 [A] H = some (.b (decide (8 < l.length)), H) := by
 have ln := (hA.view H).lenK
 refine body_of (x := .ret) (e := [(2, .b (decide (8 < l.length)))]) (d := d76) (by rw [hF.F]; rfl) rfl ?_ (.inl rfl) rfl
 have e : decide ((8 : Int) < (l.length : Int)) = decide (8 < l.length) := by
  by_cases h : 8 < l.length
  ·rw [dT h, dT (by omega)]
  ·rw [dF h, dF (by omega)]
 simp (disch := omega) [d76, c76, zipE, Z0, Z1, Z2, Z3, Z4, Z5, Z6, Z7, Z8, Z9, Za, Zb, Zc, Zd, Ze, Zf, Zg, Zh, Zi, Zj, Zk, Zl, Zm, Zn, Zo, Zp, Zq, Zr, Zs, Zt, Zu, Zv, Zw, Zx, k_mv, Zy, Zz, ZA, ZB, ZC, ZD, ZE, ZF, ZG, ZH, ZI, ZJ, ZK, ZL, ZM, ZN, ZO, ZP, ZQ, ZR, ZS, ZT, ZU, ZV, ZW, ZX, ZY, ZZ, Y0, Y1, Y2, Y3, Y4, k_mn, k_mx, Y5, Y6, Y7, Y8, Y9, Ya, Yb, Yc, Yd, Ye, Yf, Yg, Yh, Dn.setLast, Dn.getLast, evalO, mapO, Dn.get, putE, Yi, Yj, Yk, Yl, TV.one, TV.isAgg, Dn.part, Ym, negb, at0, at1, at2, at3, at4, dT, dF, Yn, Option.bind_some, Option.map_some, ln, e]

theorem l100_1_all {pg : Pg} {T F : TV} {ls : List (List Int)} (hT : SSV T ls) (hl : ls.length <= 1000000) {P : List Int -> Bool} {H : Heap} (hc : ∀ a x, SV a x -> x ∈ ls -> callRun pg (den pg) .sh [F, a] H = some (.b (P x), H)) :
  ∀ (n i : Nat), i + n = ls.length -> (∀ j, j < i -> ∀ x, ls[j]? = some x -> P x = false) ->
  (∃ k : Nat, ls.any P = true /\ den pg l100_1 [(0, T), (1, F), (7, .i .i64 (ls.length : Int)), (8, .i .i64 (i : Int))] H = some ⟨.ret, [(4, .i .i64 (k : Int))], H⟩) \/
  (ls.any P = false /\ ∃ e, den pg l100_1 [(0, T), (1, F), (7, .i .i64 (ls.length : Int)), (8, .i .i64 (i : Int))] H = some ⟨.exit 0, e, H⟩)
 | 0, i, hi, h => by
  obtain rfl : i = ls.length := by omega
  refine .inr ⟨?_, _, by
   rw [l100_1, den_loop]
   simp (disch := omega) [b100_0, Z0, Z1, Z2, Z3, Z4, Z5, Z6, Z7, Z8, Z9, Za, Zb, Zc, Zd, Ze, Zf, Zg, Zh, Zi, Zj, Zk, Zl, Zm, Zn, Zo, Zp, Zq, Zr, Zs, Zt, Zu, Zv, Zw, Zx, k_mv, Zy, Zz, ZA, ZB, ZC, ZD, ZE, ZF, ZG, ZH, ZI, ZJ, ZK, ZL, ZM, ZN, ZO, ZP, ZQ, ZR, ZS, ZT, ZU, ZV, ZW, ZX, ZY, ZZ, Y0, Y1, Y2, Y3, Y4, k_mn, k_mx, Y5, Y6, Y7, Y8, Y9, Ya, Yb, Yc, Yd, Ye, Yf, Yg, Yh, Dn.setLast, Dn.getLast, evalO, mapO, Dn.get, putE, Yi, Yj, Yk, Yl, TV.one, TV.isAgg, Dn.part, Ym, negb, at0, at1, at2, at3, at4, dT, dF, Yn, Option.bind_some, Option.map_some]
   rfl⟩
  rw [List.any_eq_false]
  intro x hx
  obtain ⟨j, hj, rfl⟩ := List.getElem_of_mem hx
  rw [h j hj _ (List.getElem?_eq_getElem hj)]
  decide
 | n + 1, i, hi, h => by
  obtain ⟨x, hx⟩ : ∃ x, ls[i]? = some x := ⟨_, List.getElem?_eq_getElem (by omega)⟩
  obtain ⟨p, a, p1, p2, p3⟩ := hT.ix (pg := pg) (R := den pg) hx H
  have c := hc a x p3 (List.mem_of_getElem? hx)
  obtain ⟨N, hN⟩ : ∃ N, N = ls.length := ⟨_, rfl⟩
  rw [<- hN]
  have d : decide ((i : Int) < (N : Int)) = true := dT (by omega)
  cases hP : P x with
  | true =>
   refine .inl ⟨i, List.any_eq_true.2 ⟨x, List.mem_of_getElem? hx, hP⟩, ?_⟩
   rw [hP] at c
   rw [l100_1, den_loop]
   simp (disch := omega) [b100_0, Z0, Z1, Z2, Z3, Z4, Z5, Z6, Z7, Z8, Z9, Za, Zb, Zc, Zd, Ze, Zf, Zg, Zh, Zi, Zj, Zk, Zl, Zm, Zn, Zo, Zp, Zq, Zr, Zs, Zt, Zu, Zv, Zw, Zx, k_mv, Zy, Zz, ZA, ZB, ZC, ZD, ZE, ZF, ZG, ZH, ZI, ZJ, ZK, ZL, ZM, ZN, ZO, ZP, ZQ, ZR, ZS, ZT, ZU, ZV, ZW, ZX, ZY, ZZ, Y0, Y1, Y2, Y3, Y4, k_mn, k_mx, Y5, Y6, Y7, Y8, Y9, Ya, Yb, Yc, Yd, Ye, Yf, Yg, Yh, Dn.setLast, Dn.getLast, evalO, mapO, Dn.get, putE, Yi, Yj, Yk, Yl, TV.one, TV.isAgg, Dn.part, Ym, negb, at0, at1, at2, at3, at4, dT, dF, Yn, Option.bind_some, Option.map_some, d, p1, p2, c]
  | false =>
   have e : den pg l100_1 [(0, T), (1, F), (7, .i .i64 (N : Int)), (8, .i .i64 (i : Int))] H = den pg l100_1 [(0, T), (1, F), (7, .i .i64 (N : Int)), (8, .i .i64 ((i + 1 : Nat) : Int))] H := by
    rw [hP] at c
    rw [l100_1, den_loop]
    simp (disch := omega) [l100_1, b100_0, Z0, Z1, Z2, Z3, Z4, Z5, Z6, Z7, Z8, Z9, Za, Zb, Zc, Zd, Ze, Zf, Zg, Zh, Zi, Zj, Zk, Zl, Zm, Zn, Zo, Zp, Zq, Zr, Zs, Zt, Zu, Zv, Zw, Zx, k_mv, Zy, Zz, ZA, ZB, ZC, ZD, ZE, ZF, ZG, ZH, ZI, ZJ, ZK, ZL, ZM, ZN, ZO, ZP, ZQ, ZR, ZS, ZT, ZU, ZV, ZW, ZX, ZY, ZZ, Y0, Y1, Y2, Y3, Y4, k_mn, k_mx, Y5, Y6, Y7, Y8, Y9, Ya, Yb, Yc, Yd, Ye, Yf, Yg, Yh, Dn.setLast, Dn.getLast, evalO, mapO, Dn.get, putE, Yi, Yj, Yk, Yl, TV.one, TV.isAgg, Dn.part, Ym, negb, at0, at1, at2, at3, at4, dT, dF, Yn, Option.bind_some, Option.map_some, d, p1, p2, c]
   rw [e, hN]
   exact l100_1_all hT hl hc n (i + 1) (by omega) fun j hj y hy => by
    by_cases hji : j = i
    ·subst hji; rw [hx] at hy; cases hy; exact hP
    ·exact h j (by omega) y hy

theorem body100 {pg : Pg} (hF : Free pg) {T F : TV} {ls : List (List Int)} (hT : SSV T ls) (hl : ls.length <= 1000000) {P : List Int -> Bool} {H : Heap} (hc : ∀ a x, SV a x -> x ∈ ls -> callRun pg (den pg) .sh [F, a] H = some (.b (P x), H)) :
  ∃ r : Int, bodyRun pg (den pg) 100 [T, F] H = some (.i .i64 r, H) /\ decide (0 <= r) = ls.any P := by
 have ln := hT.len H
 rcases l100_1_all (pg := pg) hT hl hc ls.length 0 (by omega) (fun j hj => by omega) with ⟨k, h1, h2⟩ | ⟨h1, e, h2⟩
 ·refine ⟨k, body_of (x := .ret) (e := [(4, .i .i64 (k : Int))]) (d := d100) (by rw [hF.F]; rfl) rfl ?_ (.inl rfl) rfl, by rw [h1]; exact dT (by omega)⟩
  simp only [Int.natCast_zero] at h2
  simp (disch := omega) [d100, c100, zipE, Z0, Z1, Z2, Z3, Z4, Z5, Z6, Z7, Z8, Z9, Za, Zb, Zc, Zd, Ze, Zf, Zg, Zh, Zi, Zj, Zk, Zl, Zm, Zn, Zo, Zp, Zq, Zr, Zs, Zt, Zu, Zv, Zw, Zx, k_mv, Zy, Zz, ZA, ZB, ZC, ZD, ZE, ZF, ZG, ZH, ZI, ZJ, ZK, ZL, ZM, ZN, ZO, ZP, ZQ, ZR, ZS, ZT, ZU, ZV, ZW, ZX, ZY, ZZ, Y0, Y1, Y2, Y3, Y4, k_mn, k_mx, Y5, Y6, Y7, Y8, Y9, Ya, Yb, Yc, Yd, Ye, Yf, Yg, Yh, Dn.setLast, Dn.getLast, evalO, mapO, Dn.get, putE, Yi, Yj, Yk, Yl, TV.one, TV.isAgg, Dn.part, Ym, negb, at0, at1, at2, at3, at4, dT, dF, Yn, Option.bind_some, Option.map_some, ln, go_denK (c := l100_1) rfl, h2]
 ·refine ⟨-1, body_of (x := .ret) (e := [(4, .i .i64 (-1))]) (d := d100) (by rw [hF.F]; rfl) rfl ?_ (.inl rfl) rfl, by rw [h1]; rfl⟩
  simp only [Int.natCast_zero] at h2
  simp (disch := omega) [d100, c100, zipE, Z0, Z1, Z2, Z3, Z4, Z5, Z6, Z7, Z8, Z9, Za, Zb, Zc, Zd, Ze, Zf, Zg, Zh, Zi, Zj, Zk, Zl, Zm, Zn, Zo, Zp, Zq, Zr, Zs, Zt, Zu, Zv, Zw, Zx, k_mv, Zy, Zz, ZA, ZB, ZC, ZD, ZE, ZF, ZG, ZH, ZI, ZJ, ZK, ZL, ZM, ZN, ZO, ZP, ZQ, ZR, ZS, ZT, ZU, ZV, ZW, ZX, ZY, ZZ, Y0, Y1, Y2, Y3, Y4, k_mn, k_mx, Y5, Y6, Y7, Y8, Y9, Ya, Yb, Yc, Yd, Ye, Yf, Yg, Yh, Dn.setLast, Dn.getLast, evalO, mapO, Dn.get, putE, Yi, Yj, Yk, Yl, TV.one, TV.isAgg, Dn.part, Ym, negb, at0, at1, at2, at3, at4, dT, dF, Yn, Option.bind_some, Option.map_some, ln, go_denK (c := l100_1) rfl, h2]

theorem body75 {pg : Pg} (hF : Free pg) {T F : TV} {ls : List (List Int)} (hT : SSV T ls) (hl : ls.length <= 1000000) {P : List Int -> Bool} {H : Heap} (hc : ∀ a x, SV a x -> x ∈ ls -> callRun pg (den pg) .sh [F, a] H = some (.b (P x), H)) :
  bodyRun pg (den pg) 75 [T, F] H = some (.b (ls.any P), H) := by
 obtain ⟨r, h1, h2⟩ := body100 hF hT hl hc
 refine body_of (x := .ret) (e := [(4, .b (ls.any P))]) (d := d75) (by rw [hF.F]; rfl) rfl ?_ (.inl rfl) rfl
 rw [<- h2]
 simp (disch := omega) [d75, c75, zipE, Z0, Z1, Z2, Z3, Z4, Z5, Z6, Z7, Z8, Z9, Za, Zb, Zc, Zd, Ze, Zf, Zg, Zh, Zi, Zj, Zk, Zl, Zm, Zn, Zo, Zp, Zq, Zr, Zs, Zt, Zu, Zv, Zw, Zx, k_mv, Zy, Zz, ZA, ZB, ZC, ZD, ZE, ZF, ZG, ZH, ZI, ZJ, ZK, ZL, ZM, ZN, ZO, ZP, ZQ, ZR, ZS, ZT, ZU, ZV, ZW, ZX, ZY, ZZ, Y0, Y1, Y2, Y3, Y4, k_mn, k_mx, Y5, Y6, Y7, Y8, Y9, Ya, Yb, Yc, Yd, Ye, Yf, Yg, Yh, Dn.setLast, Dn.getLast, evalO, mapO, Dn.get, putE, Yi, Yj, Yk, Yl, TV.one, TV.isAgg, Dn.part, Ym, negb, at0, at1, at2, at3, at4, dT, dF, Yn, Option.bind_some, Option.map_some, sh_fn, h1]

theorem body77 {pg : Pg} (hF : Free pg) {T : TV} {ls : List (List Int)} (hT : SSV T ls) (hl : ls.length <= 1000000) (hL : ∀ x ∈ ls, x.length <= 1000000) (H : Heap) :
  bodyRun pg (den pg) 77 [T, .fn 78 [] []] H = some (.b (ls.all isDieB), H ++ [.cells [.fn 78 [] []] false]) := by
 have bx := k_box (pg := pg) (R := den pg) (.fn 78 [] []) H rfl
 obtain ⟨H1, hH1⟩ : ∃ H1, H1 = H ++ [AObj.cells [.fn 78 [] []] false] := ⟨_, rfl⟩
 have g : H1[H.length]? = some (.cells [.fn 78 [] []] false) := by rw [hH1]; exact getLast _ _
 rw [<- hH1] at bx ⊢
 have hc : ∀ a x, SV a x -> x ∈ ls -> callRun pg (den pg) .sh [.fn 101 [] [.ref H.length 0], a] H1 = some (.b (!isDieB x), H1) := fun a x ha hx => by
  have ld := ld_box (pg := pg) (R := den pg) g rfl
  have c := body78 hF ha (hL x hx) H1
  rw [sh_fn]
  refine body_of (x := .ret) (e := [(3, .b (!isDieB x))]) (d := d101) (by rw [hF.F]; rfl) rfl ?_ (.inl rfl) rfl
  simp (disch := omega) [d101, c101, zipE, Z0, Z1, Z2, Z3, Z4, Z5, Z6, Z7, Z8, Z9, Za, Zb, Zc, Zd, Ze, Zf, Zg, Zh, Zi, Zj, Zk, Zl, Zm, Zn, Zo, Zp, Zq, Zr, Zs, Zt, Zu, Zv, Zw, Zx, k_mv, Zy, Zz, ZA, ZB, ZC, ZD, ZE, ZF, ZG, ZH, ZI, ZJ, ZK, ZL, ZM, ZN, ZO, ZP, ZQ, ZR, ZS, ZT, ZU, ZV, ZW, ZX, ZY, ZZ, Y0, Y1, Y2, Y3, Y4, k_mn, k_mx, Y5, Y6, Y7, Y8, Y9, Ya, Yb, Yc, Yd, Ye, Yf, Yg, Yh, Dn.setLast, Dn.getLast, evalO, mapO, Dn.get, putE, Yi, Yj, Yk, Yl, TV.one, TV.isAgg, Dn.part, Ym, negb, at0, at1, at2, at3, at4, dT, dF, Yn, Option.bind_some, Option.map_some, ld, <- ZL, sh_fn, c]
 have c75 := body75 hF hT hl hc
 have e : (!ls.any fun x => !isDieB x) = ls.all isDieB := by
  rw [List.all_eq_not_any_not]
 refine body_of (x := .ret) (e := [(4, .b (ls.all isDieB))]) (d := d77) (by rw [hF.F]; rfl) rfl ?_ (.inl rfl) rfl
 rw [<- e]
 simp (disch := omega) [d77, c77, zipE, Z0, Z1, Z2, Z3, Z4, Z5, Z6, Z7, Z8, Z9, Za, Zb, Zc, Zd, Ze, Zf, Zg, Zh, Zi, Zj, Zk, Zl, Zm, Zn, Zo, Zp, Zq, Zr, Zs, Zt, Zu, Zv, Zw, Zx, k_mv, Zy, Zz, ZA, ZB, ZC, ZD, ZE, ZF, ZG, ZH, ZI, ZJ, ZK, ZL, ZM, ZN, ZO, ZP, ZQ, ZR, ZS, ZT, ZU, ZV, ZW, ZX, ZY, ZZ, Y0, Y1, Y2, Y3, Y4, k_mn, k_mx, Y5, Y6, Y7, Y8, Y9, Ya, Yb, Yc, Yd, Ye, Yf, Yg, Yh, Dn.setLast, Dn.getLast, evalO, mapO, Dn.get, putE, Yi, Yj, Yk, Yl, TV.one, TV.isAgg, Dn.part, Ym, negb, at0, at1, at2, at3, at4, dT, dF, Yn, Option.bind_some, Option.map_some, bx, sh_fn, c75]

def chkD (ls : List (List Int)) : Int := if 6 < ls.length \/ (ls.any fun x => decide (8 < x.length)) = true then 2 else if ls.length = 0 \/ ls.all isDieB = false then 10 else 0

theorem fn55 {pg : Pg} (hF : Free pg) {T : TV} {ls : List (List Int)} (hT : SSV T ls) (hl : ls.length <= 1000000) (hL : ∀ x ∈ ls, x.length <= 1000000) : PFn pg 55 [T] (.i .i64 (chkD ls)) := by
 have ln := hT.len []
 have c75 := body75 (P := fun x => decide (8 < x.length)) hF hT hl (H := []) (F := .fn 76 [] []) (fun a x ha hx => by rw [sh_fn]; exact body76 hF ha [])
 have c77 := body77 hF hT hl hL []
 obtain ⟨N, hN⟩ : ∃ N, N = ls.length := ⟨_, rfl⟩
 unfold chkD
 rw [<- hN] at ln ⊢
 have key : ∃ H', go pg (den pg) [.c d55.body] .normal (zipE [T] 0) [] = some ⟨.ret, [(2, .i .i64 (if 6 < N \/ (ls.any fun x => decide (8 < x.length)) = true then 2 else if N = 0 \/ ls.all isDieB = false then 10 else 0))], H'⟩ := by
  by_cases h6 : 6 < N
  ·refine ⟨[], ?_⟩
   rw [if_pos (.inl h6)]
   simp (disch := omega) [d55, c55, zipE, Z0, Z1, Z2, Z3, Z4, Z5, Z6, Z7, Z8, Z9, Za, Zb, Zc, Zd, Ze, Zf, Zg, Zh, Zi, Zj, Zk, Zl, Zm, Zn, Zo, Zp, Zq, Zr, Zs, Zt, Zu, Zv, Zw, Zx, k_mv, Zy, Zz, ZA, ZB, ZC, ZD, ZE, ZF, ZG, ZH, ZI, ZJ, ZK, ZL, ZM, ZN, ZO, ZP, ZQ, ZR, ZS, ZT, ZU, ZV, ZW, ZX, ZY, ZZ, Y0, Y1, Y2, Y3, Y4, k_mn, k_mx, Y5, Y6, Y7, Y8, Y9, Ya, Yb, Yc, Yd, Ye, Yf, Yg, Yh, Dn.setLast, Dn.getLast, evalO, mapO, Dn.get, putE, Yi, Yj, Yk, Yl, TV.one, TV.isAgg, Dn.part, Ym, negb, at0, at1, at2, at3, at4, dT, dF, Yn, Option.bind_some, Option.map_some, ln]
  ·cases h8 : ls.any fun x => decide (8 < x.length) with
   | true =>
    refine ⟨[], ?_⟩
    rw [if_pos (.inr rfl)]
    rw [h8] at c75
    simp (disch := omega) [d55, c55, zipE, Z0, Z1, Z2, Z3, Z4, Z5, Z6, Z7, Z8, Z9, Za, Zb, Zc, Zd, Ze, Zf, Zg, Zh, Zi, Zj, Zk, Zl, Zm, Zn, Zo, Zp, Zq, Zr, Zs, Zt, Zu, Zv, Zw, Zx, k_mv, Zy, Zz, ZA, ZB, ZC, ZD, ZE, ZF, ZG, ZH, ZI, ZJ, ZK, ZL, ZM, ZN, ZO, ZP, ZQ, ZR, ZS, ZT, ZU, ZV, ZW, ZX, ZY, ZZ, Y0, Y1, Y2, Y3, Y4, k_mn, k_mx, Y5, Y6, Y7, Y8, Y9, Ya, Yb, Yc, Yd, Ye, Yf, Yg, Yh, Dn.setLast, Dn.getLast, evalO, mapO, Dn.get, putE, Yi, Yj, Yk, Yl, TV.one, TV.isAgg, Dn.part, Ym, negb, at0, at1, at2, at3, at4, dT, dF, Yn, Option.bind_some, Option.map_some, ln, sh_fn, c75]
   | false =>
    rw [if_neg (by rintro (h | h); omega; cases h)]
    rw [h8] at c75
    by_cases h0 : N = 0
    ·refine ⟨[], ?_⟩
     rw [if_pos (.inl h0)]
     subst h0
     simp (disch := omega) [d55, c55, zipE, Z0, Z1, Z2, Z3, Z4, Z5, Z6, Z7, Z8, Z9, Za, Zb, Zc, Zd, Ze, Zf, Zg, Zh, Zi, Zj, Zk, Zl, Zm, Zn, Zo, Zp, Zq, Zr, Zs, Zt, Zu, Zv, Zw, Zx, k_mv, Zy, Zz, ZA, ZB, ZC, ZD, ZE, ZF, ZG, ZH, ZI, ZJ, ZK, ZL, ZM, ZN, ZO, ZP, ZQ, ZR, ZS, ZT, ZU, ZV, ZW, ZX, ZY, ZZ, Y0, Y1, Y2, Y3, Y4, k_mn, k_mx, Y5, Y6, Y7, Y8, Y9, Ya, Yb, Yc, Yd, Ye, Yf, Yg, Yh, Dn.setLast, Dn.getLast, evalO, mapO, Dn.get, putE, Yi, Yj, Yk, Yl, TV.one, TV.isAgg, Dn.part, Ym, negb, at0, at1, at2, at3, at4, dT, dF, Yn, Option.bind_some, Option.map_some, ln, sh_fn, c75]
    ·have d0 : decide ((N : Int) = 0) = false := dF (by omega)
     have n0 : ¬ N = 0 := h0
     refine ⟨[] ++ [.cells [.fn 78 [] []] false], ?_⟩
     cases ha : ls.all isDieB with
     | true =>
      rw [if_neg (by rintro (h | h); omega; cases h)]
      rw [ha] at c77
      generalize ([] ++ [AObj.cells [TV.fn 78 [] []] false] : Heap) = H' at *
      simp (disch := omega) [d55, c55, zipE, Z0, Z1, Z2, Z3, Z4, Z5, Z6, Z7, Z8, Z9, Za, Zb, Zc, Zd, Ze, Zf, Zg, Zh, Zi, Zj, Zk, Zl, Zm, Zn, Zo, Zp, Zq, Zr, Zs, Zt, Zu, Zv, Zw, Zx, k_mv, Zy, Zz, ZA, ZB, ZC, ZD, ZE, ZF, ZG, ZH, ZI, ZJ, ZK, ZL, ZM, ZN, ZO, ZP, ZQ, ZR, ZS, ZT, ZU, ZV, ZW, ZX, ZY, ZZ, Y0, Y1, Y2, Y3, Y4, k_mn, k_mx, Y5, Y6, Y7, Y8, Y9, Ya, Yb, Yc, Yd, Ye, Yf, Yg, Yh, Dn.setLast, Dn.getLast, evalO, mapO, Dn.get, putE, Yi, Yj, Yk, Yl, TV.one, TV.isAgg, Dn.part, Ym, negb, at0, at1, at2, at3, at4, dT, dF, Yn, Option.bind_some, Option.map_some, ln, sh_fn, c75, c77, n0]
     | false =>
      rw [if_pos (.inr rfl)]
      rw [ha] at c77
      generalize ([] ++ [AObj.cells [TV.fn 78 [] []] false] : Heap) = H' at *
      simp (disch := omega) [d55, c55, zipE, Z0, Z1, Z2, Z3, Z4, Z5, Z6, Z7, Z8, Z9, Za, Zb, Zc, Zd, Ze, Zf, Zg, Zh, Zi, Zj, Zk, Zl, Zm, Zn, Zo, Zp, Zq, Zr, Zs, Zt, Zu, Zv, Zw, Zx, k_mv, Zy, Zz, ZA, ZB, ZC, ZD, ZE, ZF, ZG, ZH, ZI, ZJ, ZK, ZL, ZM, ZN, ZO, ZP, ZQ, ZR, ZS, ZT, ZU, ZV, ZW, ZX, ZY, ZZ, Y0, Y1, Y2, Y3, Y4, k_mn, k_mx, Y5, Y6, Y7, Y8, Y9, Ya, Yb, Yc, Yd, Ye, Yf, Yg, Yh, Dn.setLast, Dn.getLast, evalO, mapO, Dn.get, putE, Yi, Yj, Yk, Yl, TV.one, TV.isAgg, Dn.part, Ym, negb, at0, at1, at2, at3, at4, dT, dF, Yn, Option.bind_some, Option.map_some, ln, sh_fn, c75, c77, n0]
 obtain ⟨H', k⟩ := key
 exact .of1 (x := .ret) (hF.S _ _) (d := d55) (by rw [hF.F]; rfl) rfl k (.inl rfl) rfl (by simp [sn_i, sn_b, Yo, Yp, Yq, Yr, Ys, Yt, Yu, Yv, Yw, Yx, Yy, Yz, mapO, elems])

theorem isDie_die {d : List Int} (h : DieL 60 d) : isDieB d = true := by
 have hp := h.pos
 obtain ⟨a, ha⟩ : ∃ a, d[0]? = some a := ⟨_, List.getElem?_eq_getElem (by omega)⟩
 obtain ⟨z, hz⟩ : ∃ z, d[d.length - 1]? = some z := ⟨_, List.getElem?_eq_getElem (by omega)⟩
 rw [isDieB_at ha hz, dT (h.ok a (List.mem_of_getElem? ha)).1, dT (h.ok z (List.mem_of_getElem? hz)).2, dT h.srt]
 rfl

theorem die_isDie {d : List Int} (h : isDieB d = true) (h8 : d.length <= 8) : DieL 60 d := by
 have hp : 1 <= d.length := by
  unfold isDieB at h
  simp only [Bool.and_eq_true, decide_eq_true_eq] at h
  omega
 obtain ⟨a, ha⟩ : ∃ a, d[0]? = some a := ⟨_, List.getElem?_eq_getElem (by omega)⟩
 obtain ⟨z, hz⟩ : ∃ z, d[d.length - 1]? = some z := ⟨_, List.getElem?_eq_getElem (by omega)⟩
 rw [isDieB_at ha hz, Bool.and_eq_true, Bool.and_eq_true] at h
 obtain ⟨⟨h1, h2⟩, h3⟩ := h
 have h1 := of_decide_eq_true h1
 have h2 := of_decide_eq_true h2
 have h3 := of_decide_eq_true h3
 refine ⟨⟨h8, fun x hx => ?_, h3⟩, hp⟩
 obtain ⟨j, hj, rfl⟩ := List.getElem_of_mem hx
 have q1 := srt_at h3 (Nat.zero_le j) ha (List.getElem?_eq_getElem hj)
 have q2 := srt_at h3 (show j <= d.length - 1 by omega) (List.getElem?_eq_getElem hj) hz
 omega

theorem DieL.mono {m n : Int} {d : List Int} (h : DieL m d) (hmn : m <= n) : DieL n d where
 le := h.le
 ok x hx := by have := h.ok x hx; omega
 srt := h.srt
 pos := h.pos

theorem chk_row {most : Int} {n : Nat} {ls : List (List Int)} (h : Row most n ls) (hm : most <= 60) (hn : n <= 6) : chkD ls = 0 := by
 have h1 := h.le
 have h2 := h.pos
 unfold chkD
 rw [if_neg, if_neg]
 ·rintro (h3 | h3)
  ·omega
  ·have : ls.all isDieB = true := List.all_eq_true.2 fun x hx => isDie_die ((h.all x hx).mono hm)
   rw [this] at h3; cases h3
 ·rintro (h3 | h3)
  ·omega
  ·obtain ⟨x, hx, h4⟩ := List.any_eq_true.1 h3
   have := of_decide_eq_true h4
   have := (h.all x hx).le
   omega

theorem row_chk {ls : List (List Int)} (h : chkD ls = 0) : Row 60 6 ls := by
 unfold chkD at h
 split at h
 ·cases h
 ·rename_i h1
  split at h
  ·cases h
  ·rename_i h2
   have h3 : (ls.any fun x => decide (8 < x.length)) = false := by
    cases hh : ls.any fun x => decide (8 < x.length) with
    | false => rfl
    | true => exact absurd (.inr hh) h1
   have h4 : ls.all isDieB = true := by
    cases hh : ls.all isDieB with
    | true => rfl
    | false => exact absurd (.inr hh) h2
   refine ⟨fun d hd => die_isDie (List.all_eq_true.1 h4 d hd) ?_, ?_, ?_⟩
   ·have := List.any_eq_false.1 h3 d hd
    simpa using this
   ·have : ¬ ls.length = 0 := fun he => h2 (.inl he)
    omega
   ·have : ¬ 6 < ls.length := fun he => h1 (.inl he)
    omega

end Go.Proofs.Try.Dn

/-
 Lists compared.
-/

namespace Go.Proofs.Try.Dn
open Go.Dn

def cmpI (a b : Int) : Int := if a < b then -1 else if b < a then 1 else 0
def cmpL : List Int -> List Int -> Int
 | [], [] => 0
 | [], _ :: _ => -1
 | _ :: _, [] => 1
 | x :: a, y :: b => if cmpI x y ≠ 0 then cmpI x y else cmpL a b

theorem fn103 {pg : Pg} (hF : Free pg) (a b : Int) : PFn pg 103 [.i .i64 a, .i .i64 b] (.i .i64 (cmpI a b)) := by
 have c1 := fun H => PFn.call (fn110 hF a) (args := [.i .i64 a]) (ks := []) (fs := []) (cs := []) (H := H) (by simp [snapArgs, sn_i])
 have c2 := fun H => PFn.call (fn110 hF b) (args := [.i .i64 b]) (ks := []) (fs := []) (cs := []) (H := H) (by simp [snapArgs, sn_i])
 refine .of1 (x := .ret) (e := [(4, .i .i64 (cmpI a b))]) (H' := []) (hF.S _ _) (d := d103) (by rw [hF.F]; rfl) rfl ?_ (.inl rfl) rfl (by simp [sn_i, sn_b, Yo, Yp, Yq, Yr, Ys, Yt, Yu, Yv, Yw, Yx, Yy, Yz, mapO, elems])
 unfold cmpI
 by_cases h1 : a < b
 ·rw [if_pos h1]
  simp (disch := omega) [d103, c103, zipE, Z0, Z1, Z2, Z3, Z4, Z5, Z6, Z7, Z8, Z9, Za, Zb, Zc, Zd, Ze, Zf, Zg, Zh, Zi, Zj, Zk, Zl, Zm, Zn, Zo, Zp, Zq, Zr, Zs, Zt, Zu, Zv, Zw, Zx, k_mv, Zy, Zz, ZA, ZB, ZC, ZD, ZE, ZF, ZG, ZH, ZI, ZJ, ZK, ZL, ZM, ZN, ZO, ZP, ZQ, ZR, ZS, ZT, ZU, ZV, ZW, ZX, ZY, ZZ, Y0, Y1, Y2, Y3, Y4, k_mn, k_mx, Y5, Y6, Y7, Y8, Y9, Ya, Yb, Yc, Yd, Ye, Yf, Yg, Yh, Dn.setLast, Dn.getLast, evalO, mapO, Dn.get, putE, Yi, Yj, Yk, Yl, TV.one, TV.isAgg, Dn.part, Ym, negb, at0, at1, at2, at3, at4, dT, dF, Yn, Option.bind_some, Option.map_some, c1, c2, h1]
 ·rw [if_neg h1]
  by_cases h2 : b < a
  ·rw [if_pos h2]
   simp (disch := omega) [d103, c103, zipE, Z0, Z1, Z2, Z3, Z4, Z5, Z6, Z7, Z8, Z9, Za, Zb, Zc, Zd, Ze, Zf, Zg, Zh, Zi, Zj, Zk, Zl, Zm, Zn, Zo, Zp, Zq, Zr, Zs, Zt, Zu, Zv, Zw, Zx, k_mv, Zy, Zz, ZA, ZB, ZC, ZD, ZE, ZF, ZG, ZH, ZI, ZJ, ZK, ZL, ZM, ZN, ZO, ZP, ZQ, ZR, ZS, ZT, ZU, ZV, ZW, ZX, ZY, ZZ, Y0, Y1, Y2, Y3, Y4, k_mn, k_mx, Y5, Y6, Y7, Y8, Y9, Ya, Yb, Yc, Yd, Ye, Yf, Yg, Yh, Dn.setLast, Dn.getLast, evalO, mapO, Dn.get, putE, Yi, Yj, Yk, Yl, TV.one, TV.isAgg, Dn.part, Ym, negb, at0, at1, at2, at3, at4, dT, dF, Yn, Option.bind_some, Option.map_some, c1, c2, h1, h2]
  ·rw [if_neg h2]
   simp (disch := omega) [d103, c103, zipE, Z0, Z1, Z2, Z3, Z4, Z5, Z6, Z7, Z8, Z9, Za, Zb, Zc, Zd, Ze, Zf, Zg, Zh, Zi, Zj, Zk, Zl, Zm, Zn, Zo, Zp, Zq, Zr, Zs, Zt, Zu, Zv, Zw, Zx, k_mv, Zy, Zz, ZA, ZB, ZC, ZD, ZE, ZF, ZG, ZH, ZI, ZJ, ZK, ZL, ZM, ZN, ZO, ZP, ZQ, ZR, ZS, ZT, ZU, ZV, ZW, ZX, ZY, ZZ, Y0, Y1, Y2, Y3, Y4, k_mn, k_mx, Y5, Y6, Y7, Y8, Y9, Ya, Yb, Yc, Yd, Ye, Yf, Yg, Yh, Dn.setLast, Dn.getLast, evalO, mapO, Dn.get, putE, Yi, Yj, Yk, Yl, TV.one, TV.isAgg, Dn.part, Ym, negb, at0, at1, at2, at3, at4, dT, dF, Yn, Option.bind_some, Option.map_some, c1, c2, h1, h2]

theorem l80_1_all {pg : Pg} (hF : Free pg) {A B : TV} {a b : List Int} (hA : SV A a) (hB : SV B b) (ha : a.length <= 1000000) (hb : b.length <= 1000000) {H : Heap} : ∀ (n i : Nat), i + n = a.length -> i <= b.length ->
  (∃ e, a.length <= b.length /\ cmpL (a.drop i) (b.drop i) = (if a.length < b.length then -1 else 0) /\ den pg l80_1 [(0, A), (1, B), (9, A), (10, .i .i64 (a.length : Int)), (11, .i .i64 (i : Int))] H = some ⟨.exit 0, (0, A) :: (1, B) :: e, H⟩) \/
  den pg l80_1 [(0, A), (1, B), (9, A), (10, .i .i64 (a.length : Int)), (11, .i .i64 (i : Int))] H = some ⟨.ret, [(4, .i .i64 (cmpL (a.drop i) (b.drop i)))], H⟩
 | 0, i, hi, hib => by
  obtain rfl : i = a.length := by omega
  refine .inl ⟨[(9, A), (10, .i .i64 (a.length : Int)), (11, .i .i64 (a.length : Int)), (12, .b false)], hib, ?_, ?_⟩
  ·rw [List.drop_length]
   by_cases h : a.length < b.length
   ·rw [if_pos h, List.drop_eq_getElem_cons h]; rfl
   ·rw [if_neg h, List.drop_eq_nil_of_le (by omega)]; rfl
  ·rw [l80_1, den_loop]
   simp (disch := omega) [b80_0, Z0, Z1, Z2, Z3, Z4, Z5, Z6, Z7, Z8, Z9, Za, Zb, Zc, Zd, Ze, Zf, Zg, Zh, Zi, Zj, Zk, Zl, Zm, Zn, Zo, Zp, Zq, Zr, Zs, Zt, Zu, Zv, Zw, Zx, k_mv, Zy, Zz, ZA, ZB, ZC, ZD, ZE, ZF, ZG, ZH, ZI, ZJ, ZK, ZL, ZM, ZN, ZO, ZP, ZQ, ZR, ZS, ZT, ZU, ZV, ZW, ZX, ZY, ZZ, Y0, Y1, Y2, Y3, Y4, k_mn, k_mx, Y5, Y6, Y7, Y8, Y9, Ya, Yb, Yc, Yd, Ye, Yf, Yg, Yh, Dn.setLast, Dn.getLast, evalO, mapO, Dn.get, putE, Yi, Yj, Yk, Yl, TV.one, TV.isAgg, Dn.part, Ym, negb, at0, at1, at2, at3, at4, dT, dF, Yn, Option.bind_some, Option.map_some]
 | n + 1, i, hi, hib => by
  obtain ⟨x, hx⟩ : ∃ x, a[i]? = some x := ⟨_, List.getElem?_eq_getElem (by omega)⟩
  have hda : a.drop i = x :: a.drop (i + 1) := by
   obtain ⟨h1, rfl⟩ := List.getElem?_eq_some_iff.1 hx
   exact List.drop_eq_getElem_cons h1
  obtain ⟨p, p1, p2⟩ := ixI (pg := pg) (R := den pg) (hA.view H) hx
  have ln := (hB.view H).lenK
  by_cases hbl : i < b.length
  ·obtain ⟨y, hy⟩ : ∃ y, b[i]? = some y := ⟨_, List.getElem?_eq_getElem hbl⟩
   have hdb : b.drop i = y :: b.drop (i + 1) := by
    obtain ⟨h1, rfl⟩ := List.getElem?_eq_some_iff.1 hy
    exact List.drop_eq_getElem_cons h1
   obtain ⟨w, w1, w2⟩ := ixI (pg := pg) (R := den pg) (hB.view H) hy
   have c := PFn.call (fn103 hF x y) (args := [.i .i64 x, .i .i64 y]) (ks := []) (fs := []) (cs := []) (H := H) (by simp [snapArgs, sn_i])
   have hcm : cmpL (a.drop i) (b.drop i) = if cmpI x y ≠ 0 then cmpI x y else cmpL (a.drop (i + 1)) (b.drop (i + 1)) := by rw [hda, hdb]; rfl
   rw [hcm]
   by_cases h0 : cmpI x y = 0
   ·rw [if_neg (by simpa using h0)]
    have e : den pg l80_1 [(0, A), (1, B), (9, A), (10, .i .i64 (a.length : Int)), (11, .i .i64 (i : Int))] H = den pg l80_1 [(0, A), (1, B), (9, A), (10, .i .i64 (a.length : Int)), (11, .i .i64 ((i + 1 : Nat) : Int))] H := by
     obtain ⟨N, hN⟩ : ∃ N, N = a.length := ⟨_, rfl⟩
     obtain ⟨M, hM⟩ : ∃ M, M = b.length := ⟨_, rfl⟩
     rw [<- hN] at hi ⊢
     rw [<- hM] at ln hbl
     have di : decide ((i : Int) < (N : Int)) = true := dT (by omega)
     rw [h0] at c
     rw [l80_1, den_loop]
     simp (disch := omega) [l80_1, b80_0, Z0, Z1, Z2, Z3, Z4, Z5, Z6, Z7, Z8, Z9, Za, Zb, Zc, Zd, Ze, Zf, Zg, Zh, Zi, Zj, Zk, Zl, Zm, Zn, Zo, Zp, Zq, Zr, Zs, Zt, Zu, Zv, Zw, Zx, k_mv, Zy, Zz, ZA, ZB, ZC, ZD, ZE, ZF, ZG, ZH, ZI, ZJ, ZK, ZL, ZM, ZN, ZO, ZP, ZQ, ZR, ZS, ZT, ZU, ZV, ZW, ZX, ZY, ZZ, Y0, Y1, Y2, Y3, Y4, k_mn, k_mx, Y5, Y6, Y7, Y8, Y9, Ya, Yb, Yc, Yd, Ye, Yf, Yg, Yh, Dn.setLast, Dn.getLast, evalO, mapO, Dn.get, putE, Yi, Yj, Yk, Yl, TV.one, TV.isAgg, Dn.part, Ym, negb, at0, at1, at2, at3, at4, dT, dF, Yn, Option.bind_some, Option.map_some, di, p1, p2, ln, w1, w2, c]
    rw [e]
    exact l80_1_all hF hA hB ha hb n (i + 1) (by omega) (by omega)
   ·rw [if_pos h0]
    refine .inr ?_
    obtain ⟨N, hN⟩ : ∃ N, N = a.length := ⟨_, rfl⟩
    obtain ⟨M, hM⟩ : ∃ M, M = b.length := ⟨_, rfl⟩
    rw [<- hN] at hi ⊢
    rw [<- hM] at ln hbl
    have di : decide ((i : Int) < (N : Int)) = true := dT (by omega)
    generalize cmpI x y = C at *
    rw [l80_1, den_loop]
    simp (disch := omega) [b80_0, Z0, Z1, Z2, Z3, Z4, Z5, Z6, Z7, Z8, Z9, Za, Zb, Zc, Zd, Ze, Zf, Zg, Zh, Zi, Zj, Zk, Zl, Zm, Zn, Zo, Zp, Zq, Zr, Zs, Zt, Zu, Zv, Zw, Zx, k_mv, Zy, Zz, ZA, ZB, ZC, ZD, ZE, ZF, ZG, ZH, ZI, ZJ, ZK, ZL, ZM, ZN, ZO, ZP, ZQ, ZR, ZS, ZT, ZU, ZV, ZW, ZX, ZY, ZZ, Y0, Y1, Y2, Y3, Y4, k_mn, k_mx, Y5, Y6, Y7, Y8, Y9, Ya, Yb, Yc, Yd, Ye, Yf, Yg, Yh, Dn.setLast, Dn.getLast, evalO, mapO, Dn.get, putE, Yi, Yj, Yk, Yl, TV.one, TV.isAgg, Dn.part, Ym, negb, at0, at1, at2, at3, at4, dT, dF, Yn, Option.bind_some, Option.map_some, di, p1, p2, ln, w1, w2, c, h0]
  ·refine .inr ?_
   have hdb : b.drop i = [] := List.drop_eq_nil_of_le (by omega)
   rw [hda, hdb]
   rw [show cmpL (x :: a.drop (i + 1)) [] = 1 from rfl]
   obtain ⟨N, hN⟩ : ∃ N, N = a.length := ⟨_, rfl⟩
   obtain ⟨M, hM⟩ : ∃ M, M = b.length := ⟨_, rfl⟩
   rw [<- hN] at hi ⊢
   rw [<- hM] at ln hbl
   have di : decide ((i : Int) < (N : Int)) = true := dT (by omega)
   rw [l80_1, den_loop]
   simp (disch := omega) [b80_0, Z0, Z1, Z2, Z3, Z4, Z5, Z6, Z7, Z8, Z9, Za, Zb, Zc, Zd, Ze, Zf, Zg, Zh, Zi, Zj, Zk, Zl, Zm, Zn, Zo, Zp, Zq, Zr, Zs, Zt, Zu, Zv, Zw, Zx, k_mv, Zy, Zz, ZA, ZB, ZC, ZD, ZE, ZF, ZG, ZH, ZI, ZJ, ZK, ZL, ZM, ZN, ZO, ZP, ZQ, ZR, ZS, ZT, ZU, ZV, ZW, ZX, ZY, ZZ, Y0, Y1, Y2, Y3, Y4, k_mn, k_mx, Y5, Y6, Y7, Y8, Y9, Ya, Yb, Yc, Yd, Ye, Yf, Yg, Yh, Dn.setLast, Dn.getLast, evalO, mapO, Dn.get, putE, Yi, Yj, Yk, Yl, TV.one, TV.isAgg, Dn.part, Ym, negb, at0, at1, at2, at3, at4, dT, dF, Yn, Option.bind_some, Option.map_some, di, p1, p2, ln]

theorem fn80 {pg : Pg} (hF : Free pg) {A B : TV} {a b : List Int} (hA : SV A a) (hB : SV B b) (ha : a.length <= 1000000) (hb : b.length <= 1000000) : PFn pg 80 [A, B] (.i .i64 (cmpL a b)) := by
 have la := (hA.view []).lenK
 have lb := (hB.view []).lenK
 have hd : pg.F 80 = some d80 := by rw [hF.F]; rfl
 refine .of1 (x := .ret) (e := [(4, .i .i64 (cmpL a b))]) (H' := []) (hF.S _ _) (d := d80) hd rfl ?_ (.inl rfl) rfl (by simp [sn_i, sn_b, Yo, Yp, Yq, Yr, Ys, Yt, Yu, Yv, Yw, Yx, Yy, Yz, mapO, elems])
 rcases l80_1_all (pg := pg) hF hA hB ha hb (H := []) a.length 0 (by omega) (by omega) with ⟨e, r1, r2, r3⟩ | r
 ·simp only [Int.natCast_zero, List.drop_zero] at r2 r3
  rw [r2]
  obtain ⟨N, hN⟩ : ∃ N, N = a.length := ⟨_, rfl⟩
  obtain ⟨M, hM⟩ : ∃ M, M = b.length := ⟨_, rfl⟩
  rw [<- hN] at la r3 ⊢
  rw [<- hM] at lb ⊢
  by_cases h : N < M
  ·rw [if_pos h]
   simp (disch := omega) [d80, c80, zipE, Z0, Z1, Z2, Z3, Z4, Z5, Z6, Z7, Z8, Z9, Za, Zb, Zc, Zd, Ze, Zf, Zg, Zh, Zi, Zj, Zk, Zl, Zm, Zn, Zo, Zp, Zq, Zr, Zs, Zt, Zu, Zv, Zw, Zx, k_mv, Zy, Zz, ZA, ZB, ZC, ZD, ZE, ZF, ZG, ZH, ZI, ZJ, ZK, ZL, ZM, ZN, ZO, ZP, ZQ, ZR, ZS, ZT, ZU, ZV, ZW, ZX, ZY, ZZ, Y0, Y1, Y2, Y3, Y4, k_mn, k_mx, Y5, Y6, Y7, Y8, Y9, Ya, Yb, Yc, Yd, Ye, Yf, Yg, Yh, Dn.setLast, Dn.getLast, evalO, mapO, Dn.get, putE, Yi, Yj, Yk, Yl, TV.one, TV.isAgg, Dn.part, Ym, negb, at0, at1, at2, at3, at4, dT, dF, Yn, Option.bind_some, Option.map_some, la, lb, go_denK (c := l80_1) rfl, r3]
  ·rw [if_neg h]
   simp (disch := omega) [d80, c80, zipE, Z0, Z1, Z2, Z3, Z4, Z5, Z6, Z7, Z8, Z9, Za, Zb, Zc, Zd, Ze, Zf, Zg, Zh, Zi, Zj, Zk, Zl, Zm, Zn, Zo, Zp, Zq, Zr, Zs, Zt, Zu, Zv, Zw, Zx, k_mv, Zy, Zz, ZA, ZB, ZC, ZD, ZE, ZF, ZG, ZH, ZI, ZJ, ZK, ZL, ZM, ZN, ZO, ZP, ZQ, ZR, ZS, ZT, ZU, ZV, ZW, ZX, ZY, ZZ, Y0, Y1, Y2, Y3, Y4, k_mn, k_mx, Y5, Y6, Y7, Y8, Y9, Ya, Yb, Yc, Yd, Ye, Yf, Yg, Yh, Dn.setLast, Dn.getLast, evalO, mapO, Dn.get, putE, Yi, Yj, Yk, Yl, TV.one, TV.isAgg, Dn.part, Ym, negb, at0, at1, at2, at3, at4, dT, dF, Yn, Option.bind_some, Option.map_some, la, lb, go_denK (c := l80_1) rfl, r3]
 ·simp only [Int.natCast_zero, List.drop_zero] at r
  obtain ⟨N, hN⟩ : ∃ N, N = a.length := ⟨_, rfl⟩
  rw [<- hN] at la r
  generalize cmpL a b = C at *
  simp (disch := omega) [d80, c80, zipE, Z0, Z1, Z2, Z3, Z4, Z5, Z6, Z7, Z8, Z9, Za, Zb, Zc, Zd, Ze, Zf, Zg, Zh, Zi, Zj, Zk, Zl, Zm, Zn, Zo, Zp, Zq, Zr, Zs, Zt, Zu, Zv, Zw, Zx, k_mv, Zy, Zz, ZA, ZB, ZC, ZD, ZE, ZF, ZG, ZH, ZI, ZJ, ZK, ZL, ZM, ZN, ZO, ZP, ZQ, ZR, ZS, ZT, ZU, ZV, ZW, ZX, ZY, ZZ, Y0, Y1, Y2, Y3, Y4, k_mn, k_mx, Y5, Y6, Y7, Y8, Y9, Ya, Yb, Yc, Yd, Ye, Yf, Yg, Yh, Dn.setLast, Dn.getLast, evalO, mapO, Dn.get, putE, Yi, Yj, Yk, Yl, TV.one, TV.isAgg, Dn.part, Ym, negb, at0, at1, at2, at3, at4, dT, dF, Yn, Option.bind_some, Option.map_some, la, lb, go_denK (c := l80_1) rfl, r]

end Go.Proofs.Try.Dn

/-
 Pairs of lists compared.
-/

namespace Go.Proofs.Try.Dn
open Go.Dn

def cmpP (x y : List Int × List Int) : Int := if cmpL x.1 y.1 ≠ 0 then cmpL x.1 y.1 else cmpL x.2 y.2

theorem call80 {pg : Pg} (hF : Free pg) {A B : TV} {a b : List Int} (hA : SV A a) (hB : SV B b) (ha : a.length <= 1000000) (hb : b.length <= 1000000) (H : Heap) : callRun pg (den pg) (.pu []) [.fn 80 [] [], A, B] H = some (.i .i64 (cmpL a b), H) := by
 obtain ⟨A', s1, hA'⟩ := hA.snap H 7
 obtain ⟨B', s2, hB'⟩ := hB.snap H 7
 exact PFn.call (fn80 (pg := pg) hF hA' hB' ha hb) (args := [A, B]) (ks := []) (fs := []) (cs := []) (by simp [snapArgs, s1, s2])

theorem body79 {pg : Pg} (hF : Free pg) {A B C D : TV} {a b c d : List Int} (hA : SV A a) (hB : SV B b) (hC : SV C c) (hD : SV D d) (ha : a.length <= 1000000) (hb : b.length <= 1000000) (hc : c.length <= 1000000) (hd : d.length <= 1000000) (H : Heap) :
  ∃ H', bodyRun pg (den pg) 79 [.agg [A, B], .agg [C, D]] H = some (.i .i64 (cmpP (a, b) (c, d)), H') /\ ∀ j, j < H.length -> H'[j]? = H[j]? := by
 have b1 := ZG (pg := pg) (R := den pg) [A, B] H (by simp [hA.one, hB.one])
 obtain ⟨H1, hH1⟩ : ∃ H1, H1 = H ++ [AObj.cells [A, B] true] := ⟨_, rfl⟩
 rw [<- hH1] at b1
 have b2 := ZG (pg := pg) (R := den pg) [C, D] H1 (by simp [hC.one, hD.one])
 obtain ⟨H2, hH2⟩ : ∃ H2, H2 = H1 ++ [AObj.cells [C, D] true] := ⟨_, rfl⟩
 rw [<- hH2] at b2
 have g1 : H1[H.length]? = some (.cells [A, B] true) := by rw [hH1]; exact getLast _ _
 have l1 : H1.length = H.length + 1 := by rw [hH1]; simp
 have g2 : H2[H.length]? = some (.cells [A, B] true) := by rw [hH2, List.getElem?_append_left (by omega)]; exact g1
 have g3 : H2[H1.length]? = some (.cells [C, D] true) := by rw [hH2]; exact getLast _ _
 have c1 := call80 hF hA hC ha hc H2
 have c2 := call80 hF hB hD hb hd H2
 have ldA : ∀ o : Nat, ∀ (x y : TV), x.isAgg = false -> y.isAgg = false -> ldC (some (.cells [x, y] true)) 1 false 0 H2 = some (x, H2) /\ ldC (some (.cells [x, y] true)) 1 false 1 H2 = some (y, H2) := fun o x y hx hy => by
  constructor <;> simp [ldC, Dn.part, up, hx, hy]
 obtain ⟨p1, p2⟩ := ldA 0 A B hA.noagg hB.noagg
 obtain ⟨p3, p4⟩ := ldA 0 C D hC.noagg hD.noagg
 have fr : ∀ j, j < H.length -> H2[j]? = H[j]? := fun j hj => by rw [hH2, List.getElem?_append_left (by omega), hH1, List.getElem?_append_left hj]
 have ix : ∀ (id i : Nat), i < 2 -> dkc pg (den pg) (.ixA 2 1 false) [.ref id 0, .i .i64 (i : Int)] H2 = some (.ref id i, H2) := fun id i hi => by simp [dkc, dk, bound, hi]
 have i1 := ix H.length 0 (by omega)
 have i2 := ix H.length 1 (by omega)
 have i3 := ix H1.length 0 (by omega)
 have i4 := ix H1.length 1 (by omega)
 simp only [Int.natCast_zero, Int.natCast_one] at i1 i2 i3 i4
 have hdd : pg.F 79 = some d79 := by rw [hF.F]; rfl
 refine ⟨H2, body_of (x := .ret) (e := [(4, .i .i64 (cmpP (a, b) (c, d)))]) hdd rfl ?_ (.inl rfl) rfl, fr⟩
 unfold cmpP
 simp only
 clear l1 fr hH1 hH2 ix g1
 generalize cmpL a c = X at *
 generalize cmpL b d = Z at *
 by_cases h0 : X = 0
 ·subst h0
  rw [if_neg (by decide)]
  simp (disch := omega) [d79, c79, zipE, Z0, Z1, Z2, Z3, Z4, Z5, Z6, Z7, Z8, Z9, Za, Zb, Zc, Zd, Ze, Zf, Zg, Zh, Zi, Zj, Zk, Zl, Zm, Zn, Zo, Zp, Zq, Zr, Zs, Zt, Zu, Zv, Zw, Zx, k_mv, Zy, Zz, ZA, ZB, ZC, ZD, ZE, ZF, ZG, ZH, ZI, ZJ, ZK, ZL, ZM, ZN, ZO, ZP, ZQ, ZR, ZS, ZT, ZU, ZV, ZW, ZX, ZY, ZZ, Y0, Y1, Y2, Y3, Y4, k_mn, k_mx, Y5, Y6, Y7, Y8, Y9, Ya, Yb, Yc, Yd, Ye, Yf, Yg, Yh, Dn.setLast, Dn.getLast, evalO, mapO, Dn.get, putE, Yi, Yj, Yk, Yl, TV.one, TV.isAgg, Dn.part, Ym, negb, at0, at1, at2, at3, at4, dT, dF, Yn, Option.bind_some, Option.map_some, b1, b2, i1, i2, i3, i4, g2, g3, p1, p2, p3, p4, c1, c2]
 ·rw [if_pos h0]
  simp (disch := omega) [d79, c79, zipE, Z0, Z1, Z2, Z3, Z4, Z5, Z6, Z7, Z8, Z9, Za, Zb, Zc, Zd, Ze, Zf, Zg, Zh, Zi, Zj, Zk, Zl, Zm, Zn, Zo, Zp, Zq, Zr, Zs, Zt, Zu, Zv, Zw, Zx, k_mv, Zy, Zz, ZA, ZB, ZC, ZD, ZE, ZF, ZG, ZH, ZI, ZJ, ZK, ZL, ZM, ZN, ZO, ZP, ZQ, ZR, ZS, ZT, ZU, ZV, ZW, ZX, ZY, ZZ, Y0, Y1, Y2, Y3, Y4, k_mn, k_mx, Y5, Y6, Y7, Y8, Y9, Ya, Yb, Yc, Yd, Ye, Yf, Yg, Yh, Dn.setLast, Dn.getLast, evalO, mapO, Dn.get, putE, Yi, Yj, Yk, Yl, TV.one, TV.isAgg, Dn.part, Ym, negb, at0, at1, at2, at3, at4, dT, dF, Yn, Option.bind_some, Option.map_some, b1, b2, i1, i2, i3, i4, g2, g3, p1, p2, p3, p4, c1, c2, h0]

end Go.Proofs.Try.Dn

