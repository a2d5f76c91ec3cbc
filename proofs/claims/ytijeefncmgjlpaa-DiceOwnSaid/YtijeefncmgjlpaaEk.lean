/-
  Lists of pairs in a row: equal neighbours let off, all of it.
-/
import Derived.Test.YtijeefncmgjlpaaEj
import Derived.Test.YtijeefncmgjlpaaEi
import Derived.Test.YtijeefncmgjlpaaDd
set_option linter.unusedSimpArgs false
set_option linter.unusedVariables false

set_option maxHeartbeats 1000000
namespace Go.Proofs.Try.Dn
open Go.Dn

theorem RowP.own {K : Heap} {r : Nat} {cur : List RP} (h : RowP K r cur) {k : Nat} (hk : k <= cur.length) (h0 : 0 < k) : elRP.Own K (.sl r 0 2 true k none) (cur.take k) := by
 obtain ⟨ag, tail, h⟩ := h
 have hl := elRP.flat_len cur
 have hs : elRP.sz = 2 := rfl
 have ha : elRP.ag = true := rfl
 have hkl : (cur.take k).length = k := by simp; omega
 refine .inr ⟨fun e => by rw [e] at hkl; simp at hkl; omega, r, ag, _, by rw [hkl, hs, ha], h, ?_, ?_⟩
 ·rw [hkl, List.length_append, hl]; have := Nat.mul_le_mul_right elRP.sz hk; omega
 ·rw [hkl, List.take_append_of_le_length (by rw [hl]; exact Nat.mul_le_mul_right _ hk), elRP.flat_take]

theorem RowP.clr {pg : Pg} {K : Heap} {r : Nat} {cur : List RP} (h : RowP K r cur) {k : Nat} (hk : k <= cur.length) (h0 : 0 < k) :
  ∃ K', dkc pg (den pg) (.clr [.nilsl, .nilsl]) [.sl r (k * 2) 2 true (cur.length - k) none] K = some (.tup [], K') /\ elRP.Own K' (.sl r 0 2 true k none) (cur.take k) /\ (∀ j, j ≠ r -> K'[j]? = K[j]?) /\ K'.length = K.length := by
 by_cases hz : cur.length - k = 0
 ·refine ⟨K, ?_, h.own hk h0, fun _ _ => rfl, rfl⟩
  show dk (.clr [.nilsl, .nilsl]) [.sl r (k * 2) 2 true (cur.length - k) none] K = _
  simp only [dk]
  rw [if_pos hz]
 ·obtain ⟨ag, tail, h1⟩ := h
  have hl := elRP.flat_len cur
  have hs : elRP.sz = 2 := rfl
  have ha : elRP.ag = true := rfl
  have hlt := (List.getElem?_eq_some_iff.1 h1).1
  rw [hs] at hl
  have hkl : (cur.take k).length = k := by simp; omega
  have hc : (elRP.flat cur ++ tail).length = cur.length * 2 + tail.length := by rw [List.length_append, hl]
  refine ⟨K.set r (.cells (put2 (elRP.flat cur ++ tail) (k * 2) (repl [.nilsl, .nilsl] (cur.length - k))) ag), ?_, ?_, fun j hj => List.getElem?_set_ne (Ne.symm hj), by simp⟩
  ·show dk (.clr [.nilsl, .nilsl]) [.sl r (k * 2) 2 true (cur.length - k) none] K = _
   simp only [dk]
   rw [if_neg hz, h1]
   simp only
   rw [if_pos ⟨rfl, rfl, by omega⟩]
  ·refine .inr ⟨fun e => by rw [e] at hkl; simp at hkl; omega, r, ag, put2 (elRP.flat cur ++ tail) (k * 2) (repl [.nilsl, .nilsl] (cur.length - k)), by rw [hkl, hs, ha], by simp [hlt], ?_, ?_⟩
   ·rw [hkl, hs]; simp only [put2, List.length_append, List.length_take, List.length_drop, hl]; omega
   ·rw [hkl, hs]
    unfold put2
    rw [List.append_assoc, List.take_append_of_le_length (by rw [List.length_take, hc]; omega), List.take_take, show min (k * 2) (k * 2) = k * 2 by omega, List.take_append_of_le_length (by rw [hl]; omega)]
    have := elRP.flat_take cur k
    rwa [hs] at this

theorem l82_3_all {pg : Pg} (hF : Free pg) {r r6 : Nat} {l : List RP} (hs : ShR l) (hl : l.length <= 1000000) :
  ∀ (q k : Nat) (K : Heap), k + q = l.length -> 1 <= k -> RowP K r l -> K[r6]? = some (.cells [.fn 79 [] []] false) -> r6 ≠ r -> ddR (l.take k) = l.take k -> (∀ x ∈ l, Gd K x /\ x.ia ≠ r /\ x.ib ≠ r) ->
  ∃ x e K', den pg l82_3 [(0, .sl r 0 2 true l.length none), (1, .fn 83 [] [.ref r6 0]), (5, .i .i64 (k : Int))] K = some ⟨x, e, K'⟩ /\ (∀ j, j < K.length -> j ≠ r -> K'[j]? = K[j]?) /\
   ((x = .exit 0 /\ e = [(0, .sl r 0 2 true l.length none), (1, .fn 83 [] [.ref r6 0]), (5, .i .i64 (l.length : Int)), (15, .b false)] /\ ddR l = l /\ RowP K' r l) \/
    ∃ k' : Nat, x = .ret /\ e = [(4, .sl r 0 2 true k' none)] /\ elRP.Own K' (.sl r 0 2 true k' none) (ddR l))
 | 0, k, K, hk, hk1, hr, h6, hne, hd, hgd => by
  obtain rfl : k = l.length := by omega
  rw [List.take_length] at hd
  refine ⟨.exit 0, [(0, .sl r 0 2 true l.length none), (1, .fn 83 [] [.ref r6 0]), (5, .i .i64 (l.length : Int)), (15, .b false)], K, ?_, fun _ _ _ => rfl, .inl ⟨rfl, rfl, hd, hr⟩⟩
  have ln : ∀ K, lenK 0 (.sl r 0 2 true l.length none) K = some l.length := fun K => rfl
  obtain ⟨N, hN⟩ : ∃ N, N = l.length := ⟨_, rfl⟩
  rw [<- hN] at ln ⊢
  rw [l82_3, den_loop]
  simp (disch := omega) [b82_2, Z0, Z1, Z2, Z3, Z4, Z5, Z6, Z7, Z8, Z9, Za, Zb, Zc, Zd, Ze, Zf, Zg, Zh, Zi, Zj, Zk, Zl, Zm, Zn, Zo, Zp, Zq, Zr, Zs, Zt, Zu, Zv, Zw, Zx, k_mv, Zy, Zz, ZA, ZB, ZC, ZD, ZE, ZF, ZG, ZH, ZI, ZJ, ZK, ZL, ZM, ZN, ZO, ZP, ZQ, ZR, ZS, ZT, ZU, ZV, ZW, ZX, ZY, ZZ, Y0, Y1, Y2, Y3, Y4, k_mn, k_mx, Y5, Y6, Y7, Y8, Y9, Ya, Yb, Yc, Yd, Ye, Yf, Yg, Yh, Dn.setLast, Dn.getLast, evalO, mapO, Dn.get, putE, Yi, Yj, Yk, Yl, TV.one, TV.isAgg, Dn.part, Ym, negb, at0, at1, at2, at3, at4, dT, dF, Yn, Option.bind_some, Option.map_some, ln]
 | q + 1, k, K, hk, hk1, hr, h6, hne, hd, hgd => by
  obtain ⟨x, hx⟩ : ∃ x, l[k]? = some x := ⟨_, List.getElem?_eq_getElem (by omega)⟩
  obtain ⟨y, hy⟩ : ∃ y, l[k - 1]? = some y := ⟨_, List.getElem?_eq_getElem (by omega)⟩
  obtain ⟨p1, a1, a2⟩ := ix_row (pg := pg) hr (k := 0) (i := k) (by omega) (x := x) (by simpa using hx)
  obtain ⟨p2, a3, a4⟩ := ix_row (pg := pg) hr (k := 0) (i := k - 1) (by omega) (x := y) (by simpa using hy)
  simp only [Nat.zero_mul, Nat.sub_zero] at a1 a3
  have sx := hs x (List.mem_of_getElem? hx)
  have sy := hs y (List.mem_of_getElem? hy)
  have gx := hgd x (List.mem_of_getElem? hx)
  have gy := hgd y (List.mem_of_getElem? hy)
  obtain ⟨K1, e1, e2⟩ := eq_run hF h6 x y gx.1 gy.1 sx sy
  have gd1 : ∀ x ∈ l, Gd K1 x /\ x.ia ≠ r /\ x.ib ≠ r := fun z hz => ⟨(hgd z hz).1.mono (e2 _ (hgd z hz).1.lt.1) (e2 _ (hgd z hz).1.lt.2), (hgd z hz).2⟩
  have row1 : RowP K1 r l := hr.mono (e2 r hr.lt)
  have h61 : K1[r6]? = some (.cells [.fn 79 [] []] false) := by rw [e2 r6 (List.getElem?_eq_some_iff.1 h6).1]; exact h6
  have hl1 : K.length <= K1.length := by
   rcases Nat.lt_or_ge K1.length K.length with hh | hh
   ·have := e2 (K.length - 1) (by omega)
    rw [List.getElem?_eq_none (by omega), List.getElem?_eq_getElem (by omega)] at this
    cases this
   ·exact hh
  have hdt := ddR_take (l := l) (i := k - 1) hy (by rw [show k - 1 + 1 = k by omega]; exact hx)
  rw [show k - 1 + 2 = k + 1 by omega, show k - 1 + 1 = k by omega] at hdt
  have ln : ∀ K, lenK 0 (.sl r 0 2 true l.length none) K = some l.length := fun K => rfl
  have w1 : wrapR .i64 ((k : Int) - 1) = .i .i64 ((k - 1 : Nat) : Int) := by rw [show (k : Int) - 1 = ((k - 1 : Nat) : Int) by omega]; exact Yn (by omega)
  have w2 : wrapR .i64 ((k : Int) + 1) = .i .i64 ((k + 1 : Nat) : Int) := by rw [<- Int.natCast_succ]; exact Yn (by omega)
  have dd : decide ((k : Int) < (l.length : Int)) = true := dT (by omega)
  by_cases he : eqR x y = true
  ·rw [he] at e1 hdt
   rw [if_pos rfl, List.append_nil] at hdt
   obtain ⟨v, K2, cur, k2, r1, r2, r3⟩ := l82_1_all hF hs hl hk1 (by omega) q (k + 1) k K1 l (by omega) (Nat.le_refl _) (by omega) ⟨row1, rfl, h61, hne, by rw [hdt, hd], rfl, by omega, by omega, by omega, gd1⟩
   have hk2 := r2.ki
   have hk20 := r2.k0
   have hlen := r2.len
   obtain ⟨K3, c1, c2, c3, c4⟩ := r2.row.clr (pg := pg) (k := k2) (by omega) hk20
   rw [r2.tk, List.take_length] at c2
   rw [hlen] at c1
   refine ⟨.ret, [(4, .sl r 0 2 true k2 none)], K3, ?_, fun j hj hne => by rw [c3 j hne, r3 j (by omega) hne, e2 j hj], .inr ⟨k2, rfl, rfl, c2⟩⟩
   have sA : slcRun true false false 2 true (.sl r 0 2 true l.length none) [.i .i64 (k : Int)] = some (.sl r (k * 2) 2 true (l.length - k) none) := by
    have : bounds3 true false false l.length [.i .i64 (k : Int)] = some (k, l.length, none) := by simp [bounds3, bound]; omega
    simp only [slcRun, this, Option.bind_some]; simp
   have sB : slcRun true false false 2 true (.sl r 0 2 true l.length none) [.i .i64 (k2 : Int)] = some (.sl r (k2 * 2) 2 true (l.length - k2) none) := by
    have : bounds3 true false false l.length [.i .i64 (k2 : Int)] = some (k2, l.length, none) := by simp [bounds3, bound]; omega
    simp only [slcRun, this, Option.bind_some]; simp
   have sC : slcRun false true false 2 true (.sl r 0 2 true l.length none) [.i .i64 (k2 : Int)] = some (.sl r 0 2 true k2 none) := by
    have : bounds3 false true false l.length [.i .i64 (k2 : Int)] = some (0, k2, none) := by simp [bounds3, bound]
    simp only [slcRun, this, Option.bind_some]; simp; omega
   rw [show ((k + 1 - k : Nat) : Int) = 1 by omega] at r1
   obtain ⟨A, hA⟩ : ∃ A : Int, A = (k : Int) := ⟨_, rfl⟩
   obtain ⟨A1, hA1⟩ : ∃ A : Int, A = ((k - 1 : Nat) : Int) := ⟨_, rfl⟩
   obtain ⟨A2, hA2⟩ : ∃ A : Int, A = (k2 : Int) := ⟨_, rfl⟩
   obtain ⟨A3, hA3⟩ : ∃ A : Int, A = ((l.length - k : Nat) : Int) := ⟨_, rfl⟩
   obtain ⟨M, hM⟩ : ∃ M, M = l.length - k := ⟨_, rfl⟩
   obtain ⟨M2, hM2⟩ : ∃ M, M = l.length - k2 := ⟨_, rfl⟩
   rw [<- hA] at a1 w1 dd r1 sA ⊢
   rw [<- hA1] at a3 w1
   rw [<- hA2] at r1 sB sC
   rw [<- hA3] at r1
   rw [<- hM] at r1 sA
   rw [<- hM2] at sB c1
   obtain ⟨N, hN⟩ : ∃ N, N = l.length := ⟨_, rfl⟩
   rw [<- hN] at a1 a3 r1 sA sB sC ln dd ⊢
   generalize elRP.val x = u at *
   generalize elRP.val y = w at *
   clear gx gy gd1 hgd r2 r3 e2 row1 h61 hl1 hdt hr hk hk1 hlen c2 c3 c4 hM hM2 hN hA hA1 hA2 hA3 hk2 hk20
   rw [l82_3, den_loop]
   simp (disch := omega) [b82_2, Z0, Z1, Z2, Z3, Z4, Z5, Z6, Z7, Z8, Z9, Za, Zb, Zc, Zd, Ze, Zf, Zg, Zh, Zi, Zj, Zk, Zl, Zm, Zn, Zo, Zp, Zq, Zr, Zs, Zt, Zu, Zv, Zw, Zx, k_mv, Zy, Zz, ZA, ZB, ZC, ZD, ZE, ZF, ZG, ZH, ZI, ZJ, ZK, ZL, ZM, ZN, ZO, ZP, ZQ, ZR, ZS, ZT, ZU, ZV, ZW, ZX, ZY, ZZ, Y0, Y1, Y2, Y3, Y4, k_mn, k_mx, Y5, Y6, Y7, Y8, Y9, Ya, Yb, Yc, Yd, Ye, Yf, Yg, Yh, Dn.setLast, Dn.getLast, evalO, mapO, Dn.get, putE, Yi, Yj, Yk, Yl, TV.one, TV.isAgg, Dn.part, Ym, negb, at0, at1, at2, at3, at4, dT, dF, Yn, Option.bind_some, Option.map_some, ln, a1, a2, a3, a4, w1, dd, e1, sA, sB, sC, go_denK (c := l82_1) rfl, r1, c1]
  ·have he' : eqR x y = false := by cases h9 : eqR x y with
    | true => exact absurd h9 he
    | false => rfl
   rw [he'] at e1 hdt
   rw [if_neg (by simp)] at hdt
   obtain ⟨x', e', K', r1, r2, r3⟩ := l82_3_all hF hs hl q (k + 1) K1 (by omega) (by omega) row1 h61 hne (by
    rw [hdt, hd, List.take_add_one, hx]; rfl) gd1
   refine ⟨x', e', K', ?_, fun j hj hne => (r2 j (by omega) hne).trans (e2 j hj), r3⟩
   rw [<- r1]
   obtain ⟨A, hA⟩ : ∃ A : Int, A = (k : Int) := ⟨_, rfl⟩
   obtain ⟨A1, hA1⟩ : ∃ A : Int, A = ((k - 1 : Nat) : Int) := ⟨_, rfl⟩
   obtain ⟨A2, hA2⟩ : ∃ A : Int, A = ((k + 1 : Nat) : Int) := ⟨_, rfl⟩
   rw [<- hA] at a1 w1 w2 dd ⊢
   rw [<- hA1] at a3 w1
   rw [<- hA2] at w2 ⊢
   obtain ⟨N, hN⟩ : ∃ N, N = l.length := ⟨_, rfl⟩
   rw [<- hN] at a1 a3 ln dd ⊢
   generalize elRP.val x = u at *
   generalize elRP.val y = w at *
   clear gx gy gd1 hgd r1 r2 r3 e2 row1 h61 hl1 hdt hr hk hk1 hN hA hA1 hA2
   rw [l82_3, den_loop]
   simp (disch := omega) [l82_3, b82_2, Z0, Z1, Z2, Z3, Z4, Z5, Z6, Z7, Z8, Z9, Za, Zb, Zc, Zd, Ze, Zf, Zg, Zh, Zi, Zj, Zk, Zl, Zm, Zn, Zo, Zp, Zq, Zr, Zs, Zt, Zu, Zv, Zw, Zx, k_mv, Zy, Zz, ZA, ZB, ZC, ZD, ZE, ZF, ZG, ZH, ZI, ZJ, ZK, ZL, ZM, ZN, ZO, ZP, ZQ, ZR, ZS, ZT, ZU, ZV, ZW, ZX, ZY, ZZ, Y0, Y1, Y2, Y3, Y4, k_mn, k_mx, Y5, Y6, Y7, Y8, Y9, Ya, Yb, Yc, Yd, Ye, Yf, Yg, Yh, Dn.setLast, Dn.getLast, evalO, mapO, Dn.get, putE, Yi, Yj, Yk, Yl, TV.one, TV.isAgg, Dn.part, Ym, negb, at0, at1, at2, at3, at4, dT, dF, Yn, Option.bind_some, Option.map_some, ln, a1, a2, a3, a4, w1, w2, dd, e1]

theorem body82 {pg : Pg} (hF : Free pg) {r6 : Nat} {l : List RP} (hs : ShR l) (hl : l.length <= 1000000) {K : Heap} {t : TV} (h : elRP.Own K t l) (h6 : K[r6]? = some (.cells [.fn 79 [] []] false)) (hne : t.idOf ≠ some r6) (hgd : ∀ x ∈ l, Gd K x /\ t.idOf ≠ some x.ia /\ t.idOf ≠ some x.ib) :
  ∃ t' K', bodyRun pg (den pg) 82 [t, .fn 83 [] [.ref r6 0]] K = some (t', K') /\ elRP.Own K' t' (ddR l) /\ (∀ j, t'.idOf = some j -> t.idOf = some j) /\ ∀ j, j < K.length -> t.idOf ≠ some j -> K'[j]? = K[j]? := by
 have hd82 : pg.F 82 = some d82 := by rw [hF.F]; rfl
 have ln : ∀ K', lenK 0 t K' = some l.length := fun K' => h.view.lenK K'
 by_cases h2 : l.length < 2
 ·have hdd : ddR l = l := by
   match l, h2 with
   | [], _ => rfl
   | [x], _ => rfl
  refine ⟨t, K, body_of (x := .ret) (e := [(4, t)]) hd82 rfl ?_ (.inl rfl) rfl, by rw [hdd]; exact h, fun _ h => h, fun _ _ _ => rfl⟩
  have dd : decide ((l.length : Int) < 2) = true := dT (by omega)
  generalize l.length = N at *
  simp (disch := omega) [d82, c82, zipE, Z0, Z1, Z2, Z3, Z4, Z5, Z6, Z7, Z8, Z9, Za, Zb, Zc, Zd, Ze, Zf, Zg, Zh, Zi, Zj, Zk, Zl, Zm, Zn, Zo, Zp, Zq, Zr, Zs, Zt, Zu, Zv, Zw, Zx, k_mv, Zy, Zz, ZA, ZB, ZC, ZD, ZE, ZF, ZG, ZH, ZI, ZJ, ZK, ZL, ZM, ZN, ZO, ZP, ZQ, ZR, ZS, ZT, ZU, ZV, ZW, ZX, ZY, ZZ, Y0, Y1, Y2, Y3, Y4, k_mn, k_mx, Y5, Y6, Y7, Y8, Y9, Ya, Yb, Yc, Yd, Ye, Yf, Yg, Yh, Dn.setLast, Dn.getLast, evalO, mapO, Dn.get, putE, Yi, Yj, Yk, Yl, TV.one, TV.isAgg, Dn.part, Ym, negb, at0, at1, at2, at3, at4, dT, dF, Yn, Option.bind_some, Option.map_some, ln, dd]
 ·rcases h with ⟨rfl, rfl⟩ | ⟨h0, r, ag, c, rfl, h1, h3, h4⟩
  ·simp at h2
  have hs2 : elRP.sz = 2 := rfl
  have ha2 : elRP.ag = true := rfl
  rw [hs2] at h3 h4
  have row : RowP K r l := ⟨ag, c.drop (l.length * 2), by rw [<- h4, List.take_append_drop]; exact h1⟩
  have dd : decide ((l.length : Int) < 2) = false := dF (by omega)
  have hne' : r6 ≠ r := fun e => hne (by rw [e]; rfl)
  obtain ⟨x, e, K', r1, r2, r3⟩ := l82_3_all hF hs hl (l.length - 1) 1 K (by omega) (Nat.le_refl _) row h6 hne' (by
   cases l with
   | nil => rfl
   | cons a l => rfl) (fun z hz => ⟨(hgd z hz).1, fun e => (hgd z hz).2.1 (by rw [e]; rfl), fun e => (hgd z hz).2.2 (by rw [e]; rfl)⟩)
  simp only [Int.natCast_one] at r1
  rw [hs2, ha2] at ln ⊢
  have fr : ∀ j, j < K.length -> (TV.sl r 0 2 true l.length none).idOf ≠ some j -> K'[j]? = K[j]? := fun j hj hn => r2 j hj fun e => hn (by rw [e]; rfl)
  rcases r3 with ⟨rfl, rfl, hdd, hrow⟩ | ⟨k', rfl, rfl, how⟩
  ·refine ⟨.sl r 0 2 true l.length none, K', body_of (x := .ret) (e := [(4, .sl r 0 2 true l.length none)]) hd82 rfl ?_ (.inl rfl) rfl, by
    rw [hdd]; have := hrow.own (k := l.length) (Nat.le_refl _) (by omega); rwa [List.take_length] at this, fun _ h => h, fr⟩
   clear hgd row r2 fr h3 h4 h1 h2 hs hl hrow hdd
   generalize l.length = N at *
   simp (disch := omega) [d82, c82, zipE, Z0, Z1, Z2, Z3, Z4, Z5, Z6, Z7, Z8, Z9, Za, Zb, Zc, Zd, Ze, Zf, Zg, Zh, Zi, Zj, Zk, Zl, Zm, Zn, Zo, Zp, Zq, Zr, Zs, Zt, Zu, Zv, Zw, Zx, k_mv, Zy, Zz, ZA, ZB, ZC, ZD, ZE, ZF, ZG, ZH, ZI, ZJ, ZK, ZL, ZM, ZN, ZO, ZP, ZQ, ZR, ZS, ZT, ZU, ZV, ZW, ZX, ZY, ZZ, Y0, Y1, Y2, Y3, Y4, k_mn, k_mx, Y5, Y6, Y7, Y8, Y9, Ya, Yb, Yc, Yd, Ye, Yf, Yg, Yh, Dn.setLast, Dn.getLast, evalO, mapO, Dn.get, putE, Yi, Yj, Yk, Yl, TV.one, TV.isAgg, Dn.part, Ym, negb, at0, at1, at2, at3, at4, dT, dF, Yn, Option.bind_some, Option.map_some, ln, dd, go_denK (c := l82_3) rfl, r1]
  ·refine ⟨_, K', body_of (x := .ret) (e := [(4, .sl r 0 2 true k' none)]) hd82 rfl ?_ (.inl rfl) rfl, how, fun _ h => h, fr⟩
   clear hgd row r2 fr h3 h4 h1 h2 hs hl how
   generalize l.length = N at *
   simp (disch := omega) [d82, c82, zipE, Z0, Z1, Z2, Z3, Z4, Z5, Z6, Z7, Z8, Z9, Za, Zb, Zc, Zd, Ze, Zf, Zg, Zh, Zi, Zj, Zk, Zl, Zm, Zn, Zo, Zp, Zq, Zr, Zs, Zt, Zu, Zv, Zw, Zx, k_mv, Zy, Zz, ZA, ZB, ZC, ZD, ZE, ZF, ZG, ZH, ZI, ZJ, ZK, ZL, ZM, ZN, ZO, ZP, ZQ, ZR, ZS, ZT, ZU, ZV, ZW, ZX, ZY, ZZ, Y0, Y1, Y2, Y3, Y4, k_mn, k_mx, Y5, Y6, Y7, Y8, Y9, Ya, Yb, Yc, Yd, Ye, Yf, Yg, Yh, Dn.setLast, Dn.getLast, evalO, mapO, Dn.get, putE, Yi, Yj, Yk, Yl, TV.one, TV.isAgg, Dn.part, Ym, negb, at0, at1, at2, at3, at4, dT, dF, Yn, Option.bind_some, Option.map_some, ln, dd, go_denK (c := l82_3) rfl, r1]

end Go.Proofs.Try.Dn

/-
 Pairs of dice listed: the loop that takes them.
-/

set_option maxHeartbeats 1000000
namespace Go.Proofs.Try.Dn
open Go.Dn

def L56 (r3 : Nat) : ALoop := { env := [(3, .ref r3 0)], params := [8, 9], assign := a56_0, body := b56_1, st := .ready, pend := none }

structure I56 (Hb : Heap) (y r3 : Nat) (rs : List RP) (own : Nat -> Prop) (H : Heap) (t : TV) : Prop where
 lp : H[y]? = some (.loop (L56 r3))
 cell : H[r3]? = some (.cells [t] false)
 ow : elRP.Own H t rs
 gd : ∀ x ∈ rs, Gd H x /\ t.idOf ≠ some x.ia /\ t.idOf ≠ some x.ib
 gs : ∀ x ∈ rs, x.ia ≠ y /\ x.ib ≠ y /\ x.ia ≠ r3 /\ x.ib ≠ r3 /\ Hb.length <= x.ia /\ Hb.length <= x.ib
 eq : ∀ j, own j ↔ (j < Hb.length \/ j = y \/ j = r3 \/ t.idOf = some j \/ ∃ x ∈ rs, j = x.ia \/ j = x.ib)
 ny : t.idOf ≠ some y
 nr : t.idOf ≠ some r3
 yr : y ≠ r3
 by_ : Hb.length <= y
 br : Hb.length <= r3
 bt : ∀ j, t.idOf = some j -> Hb.length <= j
 old : ∀ j, j < Hb.length -> H[j]? = Hb[j]?
 hl : Hb.length <= H.length

theorem elRP_noagg {H : Heap} {t : TV} {l : List RP} (h : elRP.Own H t l) : t.isAgg = false /\ t.one = true := by
 rcases h with ⟨rfl, _⟩ | ⟨_, id, ag, c, rfl, _⟩ <;> exact ⟨rfl, rfl⟩

theorem run_b56 {pg : Pg} {r3 : Nat} {t t' va vb x : TV} {H1 H2 H3 H4 : Heap} (ld : ldC H1[r3]? 1 false 0 H1 = some (t, H1)) (bl : dkc pg (den pg) (.build [.nilsl, .nilsl] [(0, 1), (1, 1)]) [va, vb] H1 = some (.agg [va, vb], H1))
  (bs : dkc pg (den pg) (.bsl false [.nilsl, .nilsl] true 1 [0]) [.agg [va, vb]] H1 = some (x, H2)) (p1 : appRun 2 true 48 t x H2 = some (t', H3)) (st : dkc pg (den pg) (.st 1) [.ref r3 0, t'] H3 = some (.undef, H4)) :
  den pg b56_1 [(3, .ref r3 0), (4, va), (5, vb)] H1 = some ⟨.normal, [], H4⟩ := by
 rw [den_eq, runC_go]
 simp (disch := omega) [b56_1, Z0, Z1, Z2, Z3, Z4, Z5, Z6, Z7, Z8, Z9, Za, Zb, Zc, Zd, Ze, Zf, Zg, Zh, Zi, Zj, Zk, Zl, Zm, Zn, Zo, Zp, Zq, Zr, Zs, Zt, Zu, Zv, Zw, Zx, k_mv, Zy, Zz, ZA, ZB, ZC, ZD, ZE, ZF, ZG, ZH, ZI, ZJ, ZK, ZL, ZM, ZN, ZO, ZP, ZQ, ZR, ZS, ZT, ZU, ZV, ZW, ZX, ZY, ZZ, Y0, Y1, Y2, Y3, Y4, k_mn, k_mx, Y5, Y6, Y7, Y8, Y9, Ya, Yb, Yc, Yd, Ye, Yf, Yg, Yh, Dn.setLast, Dn.getLast, evalO, mapO, Dn.get, putE, Yi, Yj, Yk, Yl, TV.one, TV.isAgg, Dn.part, Ym, negb, at0, at1, at2, at3, at4, dT, dF, Yn, Option.bind_some, Option.map_some, ld, bl, bs, p1, st]

theorem con56 (pg : Pg) (Hb : Heap) (y r3 : Nat) : Con pg (.yl y) (fun acc own H => ∃ t rs, rs.map (·.v) = acc /\ I56 Hb y r3 rs own H t) where
 ag := rfl
 sm := by simp [Go.Dn.same]
 lt := by
  rintro acc own H ⟨t, rs, -, h⟩ j hj
  rcases (h.eq j).1 hj with hj | rfl | rfl | hj | ⟨x, hx, hj⟩
  ·have := h.hl; omega
  ·exact (List.getElem?_eq_some_iff.1 h.lp).1
  ·exact (List.getElem?_eq_some_iff.1 h.cell).1
  ·exact h.ow.lt j hj
  ·have := (h.gd x hx).1.lt
   rcases hj with rfl | rfl <;> omega
 still := by
  rintro acc own H H' ⟨t, rs, hacc, h⟩ hf
  have hk : ∀ j, (j < Hb.length \/ j = y \/ j = r3 \/ t.idOf = some j \/ ∃ x ∈ rs, j = x.ia \/ j = x.ib) -> H'[j]? = H[j]? := fun j hj => hf j ((h.eq j).2 hj)
  refine ⟨t, rs, hacc, { h with lp := by rw [hk y (.inr (.inl rfl))]; exact h.lp, cell := by rw [hk r3 (.inr (.inr (.inl rfl)))]; exact h.cell, ow := h.ow.mono fun id hid => hk id (.inr (.inr (.inr (.inl hid)))), gd := fun x hx => ⟨(h.gd x hx).1.mono (hk _ (.inr (.inr (.inr (.inr ⟨x, hx, .inl rfl⟩))))) (hk _ (.inr (.inr (.inr (.inr ⟨x, hx, .inr rfl⟩))))), (h.gd x hx).2⟩, old := fun j hj => (hk j (.inl hj)).trans (h.old j hj), hl := ?_ }⟩
  have h1 := hk y (.inr (.inl rfl))
  rw [h.lp] at h1
  have := (List.getElem?_eq_some_iff.1 h1).1
  have := h.by_
  omega
 step := by
  rintro acc own H ia ib a b ⟨t, rs, hacc, h⟩ hal ha hb hia hib hne0 hoa hob
  have hyl := (List.getElem?_eq_some_iff.1 h.lp).1
  have hrl := (List.getElem?_eq_some_iff.1 h.cell).1
  have hial := (List.getElem?_eq_some_iff.1 hia).1
  have hibl := (List.getElem?_eq_some_iff.1 hib).1
  have noa : ¬ (ia < Hb.length \/ ia = y \/ ia = r3 \/ t.idOf = some ia \/ ∃ x ∈ rs, ia = x.ia \/ ia = x.ib) := fun hh => hoa ((h.eq ia).2 hh)
  have nob : ¬ (ib < Hb.length \/ ib = y \/ ib = r3 \/ t.idOf = some ib \/ ∃ x ∈ rs, ib = x.ia \/ ib = x.ib) := fun hh => hob ((h.eq ib).2 hh)
  simp only [not_or] at noa nob
  have hrsl : rs.length = acc.length := by rw [<- hacc, List.length_map]
  obtain ⟨x, hx⟩ : ∃ x : RP, x = ⟨ia, ib, a, b⟩ := ⟨_, rfl⟩
  obtain ⟨va, hva⟩ : ∃ va, va = TV.sl ia 0 1 false a.length none := ⟨_, rfl⟩
  obtain ⟨vb, hvb⟩ : ∃ vb, vb = TV.sl ib 0 1 false b.length none := ⟨_, rfl⟩
  have oa : va.one = true := by rw [hva]; rfl
  have ob : vb.one = true := by rw [hvb]; rfl
  have xa : va.cells = [va] := by rw [hva]; rfl
  have xb : vb.cells = [vb] := by rw [hvb]; rfl
  obtain ⟨H1, hH1⟩ : ∃ H1, H1 = H.set y (.loop { L56 r3 with st := .busy }) := ⟨_, rfl⟩
  have o1 : ∀ j, j ≠ y -> H1[j]? = H[j]? := fun j hj => by rw [hH1]; exact List.getElem?_set_ne (Ne.symm hj)
  have l1 : H1.length = H.length := by rw [hH1]; simp
  have y1 : H1[y]? = some (.loop { L56 r3 with st := .busy }) := by rw [hH1]; simp [hyl]
  have c1 : H1[r3]? = some (.cells [t] false) := by rw [o1 r3 (Ne.symm h.yr)]; exact h.cell
  have w1 : elRP.Own H1 t rs := h.ow.mono fun id hid => o1 id fun e => h.ny (by rw [<- e]; exact hid)
  obtain ⟨H2, hH2⟩ : ∃ H2, H2 = H1 ++ [AObj.cells [va, vb] false] := ⟨_, rfl⟩
  have l2 : H2.length = H1.length + 1 := by rw [hH2]; simp
  have o2 : ∀ j, j < H1.length -> H2[j]? = H1[j]? := fun j hj => by rw [hH2]; exact List.getElem?_append_left hj
  have w2 : elRP.Own H2 t rs := w1.mono fun id hid => o2 id (w1.lt id hid)
  have vx : elRP.View H2 (.sl H1.length 0 2 true 1 (some 1)) [x] := .inr (.inr ⟨H1.length, 0, some 1, [va, vb], false, rfl, by simp, by rw [hH2]; exact getLast _ _, by simp [elRP], by simp [elRP, El.flat, hva, hvb, hx]⟩)
  obtain ⟨t', H3, p1, p2, p3, p4, p5⟩ := El.app (bytes := 48) w2 vx (by simp; omega)
  have es : elRP.sz = 2 := rfl
  have ea : elRP.ag = true := rfl
  rw [es, ea] at p1
  have ho' : ∀ id, t.idOf = some id -> id < H.length := fun id hid => h.ow.lt id hid
  have hne : ∀ j, t'.idOf = some j -> j ≠ y /\ j ≠ r3 /\ Hb.length <= j := fun j hj => by
   rcases p5 with rfl | p5
   ·exact ⟨fun e => h.ny (by rw [<- e]; exact hj), fun e => h.nr (by rw [<- e]; exact hj), h.bt j hj⟩
   ·have := p5 j hj; have := h.hl; exact ⟨by omega, by omega, by omega⟩
  have hnt : ∀ j, j < H.length -> t.idOf ≠ some j -> t'.idOf ≠ some j := fun j hj hn e => by
   rcases p5 with rfl | p5
   ·exact hn e
   ·have := p5 j e; omega
  have o3 : ∀ j, j < H.length -> t.idOf ≠ some j -> H3[j]? = H1[j]? := fun j hj hn => (p4 j (by omega) hn).trans (o2 j (by omega))
  have c3 : H3[r3]? = some (.cells [t] false) := by rw [o3 r3 hrl h.nr]; exact c1
  have y3 : H3[y]? = some (.loop { L56 r3 with st := .busy }) := by rw [o3 y hyl h.ny]; exact y1
  have st := st_box (pg := pg) (R := den pg) c3 (elRP_noagg p2).2
  obtain ⟨H4, hH4⟩ : ∃ H4, H4 = H3.set r3 (.cells [t'] false) := ⟨_, rfl⟩
  rw [<- hH4] at st
  have y4 : H4[y]? = some (.loop { L56 r3 with st := .busy }) := by rw [hH4, List.getElem?_set_ne (Ne.symm h.yr)]; exact y3
  have l4 : H4.length = H3.length := by rw [hH4]; simp
  have ld := ldC_of pg c1 (elRP_noagg h.ow).1
  have bl : dkc pg (den pg) (.build [.nilsl, .nilsl] [(0, 1), (1, 1)]) [va, vb] H1 = some (.agg [va, vb], H1) := by
   show dk (.build [.nilsl, .nilsl] [(0, 1), (1, 1)]) [va, vb] H1 = _
   simp [dk, fillP, xa, xb, oa, ob, put2]
  have bs : dkc pg (den pg) (.bsl false [.nilsl, .nilsl] true 1 [0]) [.agg [va, vb]] H1 = some (.sl H1.length 0 2 true 1 (some 1), H2) := by
   show dk (.bsl false [.nilsl, .nilsl] true 1 [0]) [.agg [va, vb]] H1 = _
   simp [dk, fillP, repl, TV.cells, oa, ob, put2, hH2]
  have all : ∀ j, j < H.length -> j ≠ y -> j ≠ r3 -> t.idOf ≠ some j -> (H4.set y (.loop (L56 r3)))[j]? = H[j]? := fun j hj h1 h2 h3 => by
   rw [List.getElem?_set_ne (Ne.symm h1), hH4, List.getElem?_set_ne (Ne.symm h2), o3 j hj h3, o1 j h1]
  refine ⟨fun j => j < Hb.length \/ j = y \/ j = r3 \/ t'.idOf = some j \/ ∃ z ∈ rs ++ [x], j = z.ia \/ j = z.ib, H4.set y (.loop (L56 r3)), ?_, ⟨t', rs ++ [x], ?_, ?_⟩, fun j hj hn => ?_, by simp; omega, fun j hj => ?_⟩
  ·rw [sh_yl, <- hva, <- hvb]
   have := yield_of (pg := pg) (id := y) (L := L56 r3) (args := [va, vb]) (H := H) (H' := H4.set y (.loop (L56 r3))) (x := .normal) rfl rfl rfl h.lp ⟨[(3, .ref r3 0), (4, va), (5, vb)], H, [], H4, ?_, h.lp, ?_, y4, rfl⟩
   ·rw [this, if_pos rfl]
   ·show den pg a56_0 [(9, vb), (8, va), (3, .ref r3 0)] H = _
    rw [den_eq, runC_go]
    simp (disch := omega) [a56_0, Z0, Z1, Z2, Z3, Z4, Z5, Z6, Z7, Z8, Z9, Za, Zb, Zc, Zd, Ze, Zf, Zg, Zh, Zi, Zj, Zk, Zl, Zm, Zn, Zo, Zp, Zq, Zr, Zs, Zt, Zu, Zv, Zw, Zx, k_mv, Zy, Zz, ZA, ZB, ZC, ZD, ZE, ZF, ZG, ZH, ZI, ZJ, ZK, ZL, ZM, ZN, ZO, ZP, ZQ, ZR, ZS, ZT, ZU, ZV, ZW, ZX, ZY, ZZ, Y0, Y1, Y2, Y3, Y4, k_mn, k_mx, Y5, Y6, Y7, Y8, Y9, Ya, Yb, Yc, Yd, Ye, Yf, Yg, Yh, Dn.setLast, Dn.getLast, evalO, mapO, Dn.get, putE, Yi, Yj, Yk, Yl, TV.one, TV.isAgg, Dn.part, Ym, negb, at0, at1, at2, at3, at4, dT, dF, Yn, Option.bind_some, Option.map_some]
   ·rw [<- hH1]
    exact run_b56 ld bl bs p1 st
  ·rw [List.map_append, hacc, hx]; rfl
  ·have o5 : ∀ j, j ≠ y -> (H4.set y (.loop (L56 r3)))[j]? = H4[j]? := fun j hj => List.getElem?_set_ne (Ne.symm hj)
   have hyl4 : y < H4.length := (List.getElem?_eq_some_iff.1 y4).1
   have hr3 : r3 < H3.length := (List.getElem?_eq_some_iff.1 c3).1
   have gold : ∀ z ∈ rs, Gd (H4.set y (.loop (L56 r3))) z /\ t'.idOf ≠ some z.ia /\ t'.idOf ≠ some z.ib := fun z hz => by
    obtain ⟨g1, g2, g3⟩ := h.gd z hz
    obtain ⟨s1, s2, s3, s4, -, -⟩ := h.gs z hz
    exact ⟨g1.mono (all _ g1.lt.1 s1 s3 g2) (all _ g1.lt.2 s2 s4 g3), hnt _ g1.lt.1 g2, hnt _ g1.lt.2 g3⟩
   have gnew : Gd (H4.set y (.loop (L56 r3))) x /\ t'.idOf ≠ some x.ia /\ t'.idOf ≠ some x.ib := by
    subst hx
    exact ⟨⟨(all _ hial noa.2.1 noa.2.2.1 noa.2.2.2.1).trans hia, (all _ hibl nob.2.1 nob.2.2.1 nob.2.2.2.1).trans hib, ha, hb⟩, hnt _ hial noa.2.2.2.1, hnt _ hibl nob.2.2.2.1⟩
   have oldn : ∀ j, j < Hb.length -> (H4.set y (.loop (L56 r3)))[j]? = Hb[j]? := fun j hj => by
    have h1 := h.by_; have h2 := h.br; have h3 := h.hl
    rw [all j (by omega) (by omega) (by omega) (fun e => by have := h.bt j e; omega), h.old j hj]
   have gdn : ∀ z ∈ rs ++ [x], Gd (H4.set y (.loop (L56 r3))) z /\ t'.idOf ≠ some z.ia /\ t'.idOf ≠ some z.ib := fun z hz => by
    rcases List.mem_append.1 hz with hz | hz
    ·exact gold z hz
    ·rw [List.mem_singleton.1 hz]; exact gnew
   have gsn : ∀ z ∈ rs ++ [x], z.ia ≠ y /\ z.ib ≠ y /\ z.ia ≠ r3 /\ z.ib ≠ r3 /\ Hb.length <= z.ia /\ Hb.length <= z.ib := fun z hz => by
    rcases List.mem_append.1 hz with hz | hz
    ·exact h.gs z hz
    ·rw [List.mem_singleton.1 hz, hx]; exact ⟨noa.2.1, nob.2.1, noa.2.2.1, nob.2.2.1, Nat.le_of_not_lt noa.1, Nat.le_of_not_lt nob.1⟩
   exact { lp := by simp [hyl4], cell := by rw [o5 r3 (Ne.symm h.yr), hH4]; simp [hr3], ow := p2.mono fun id hid => by rw [o5 id (hne id hid).1, hH4]; exact List.getElem?_set_ne (Ne.symm (hne id hid).2.1), gd := gdn, gs := gsn, eq := fun j => Iff.rfl, ny := fun e => (hne y e).1 rfl, nr := fun e => (hne r3 e).2.1 rfl, yr := h.yr, by_ := h.by_, br := h.br, bt := fun j hj => (hne j hj).2.2, old := oldn, hl := by simp; have := h.hl; omega }
  ·have hn' : ¬ (j < Hb.length \/ j = y \/ j = r3 \/ t.idOf = some j \/ ∃ x ∈ rs, j = x.ia \/ j = x.ib) := fun hh => hn ((h.eq j).2 hh)
   simp only [not_or] at hn'
   exact all j hj hn'.2.1 hn'.2.2.1 hn'.2.2.2.1
  ·rcases hj with hj | hj | hj | hj | ⟨z, hz, hj⟩
   ·exact .inl ((h.eq j).2 (.inl hj))
   ·exact .inl ((h.eq j).2 (.inr (.inl hj)))
   ·exact .inl ((h.eq j).2 (.inr (.inr (.inl hj))))
   ·rcases p5 with rfl | p5
    ·exact .inl ((h.eq j).2 (.inr (.inr (.inr (.inl hj)))))
    ·have := p5 j hj; exact .inr (.inl (by omega))
   ·rcases List.mem_append.1 hz with hz | hz
    ·exact .inl ((h.eq j).2 (.inr (.inr (.inr (.inr ⟨z, hz, hj⟩)))))
    ·rw [List.mem_singleton.1 hz, hx] at hj
     rcases hj with rfl | rfl
     ·exact .inr (.inr (.inl rfl))
     ·exact .inr (.inr (.inr rfl))

end Go.Proofs.Try.Dn

