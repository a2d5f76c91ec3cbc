/-
  The search for a ring, walked whole.
-/
import Derived.Test.YtijeefncmgjlpaaUB
set_option linter.unusedSimpArgs false
set_option linter.unusedVariables false

set_option maxHeartbeats 4000000
set_option maxRecDepth 100000
namespace Go.Proofs.Try.Dn
open Go.Dn

theorem countP_le' {p p' : Nat -> Bool} : ∀ (l : List Nat), (∀ x ∈ l, p' x = true -> p x = true) -> l.countP p' <= l.countP p
 | [], _ => Nat.le_refl _
 | y :: l, h => by
  have ih := countP_le' l fun x hx => h x (List.mem_cons_of_mem _ hx)
  have hy := h y (List.mem_cons_self ..)
  rw [List.countP_cons, List.countP_cons]
  cases hp' : p' y with
  | true => rw [hy hp']; simp; exact ih
  | false => simp; omega
theorem countP_lt' {p p' : Nat -> Bool} : ∀ (l : List Nat), (∀ x ∈ l, p' x = true -> p x = true) -> (∃ x ∈ l, p x = true /\ p' x = false) -> l.countP p' < l.countP p
 | [], _, ⟨x, hx, _⟩ => by simp at hx
 | y :: l, h, ⟨x, hx, h1, h2⟩ => by
  have hl := fun x hx => h x (List.mem_cons_of_mem y hx)
  rw [List.countP_cons, List.countP_cons]
  rcases List.mem_cons.1 hx with rfl | hx
  ·have := countP_le' l hl
   rw [h1, h2]; simp; omega
  ·have ih := countP_lt' l hl ⟨x, hx, h1, h2⟩
   have hy := h y (List.mem_cons_self ..)
   cases hp' : p' y with
   | true => rw [hy hp']; simp; exact ih
   | false => simp; omega

theorem spec90 {pg : Pg} (hF : Free pg) {q : Q90} {n : Nat} {E : Nat -> Nat -> Bool} {TBL : TV} (hn : n <= 900) (hirr : ∀ x, E x x = false) (hasy : ∀ x y, E x y = true -> E y x = false) (hT : TabOf n E TBL) : ∀ k, Spec90 pg q n E TBL k := by
 have plen : ∀ {col : Nat -> Nat} {path ord : List Nat}, Dfs E n col path ord -> path.length <= n /\ ord.length <= n := fun {col path ord} hd => by
  have h1 := sub_lenN hd.pnd (m := List.range n) fun x hx => List.mem_range.2 ((hd.pin x).1 hx).1
  have h2 := sub_lenN hd.ond (m := List.range n) fun x hx => List.mem_range.2 ((hd.oin x).1 hx).1
  simp at h1 h2
  exact ⟨h1, h2⟩
 have known : ∀ (k i : Nat) (col : Nat -> Nat) (path ord : List Nat) (tP tO : TV) (H : Heap), i < n -> HS q n TBL col path ord tP tO H -> Dfs E n col path ord -> (∀ x, path.getLast? = some x -> E x i = true) -> col i = 1 \/ col i = 2 -> (∃ r H', bodyRun pg (den pg) 90 (.i .i64 (i : Int) :: q.caps) H = some (.b false, H') /\ H'[q.rR]? = some (.cells [elI.lt false (ci r)] false) /\ RingN E n r /\ ∃ t, H'[q.rO]? = some (.cells [t] false)) \/
   (∃ col' ord' tP' tO' H', bodyRun pg (den pg) 90 (.i .i64 (i : Int) :: q.caps) H = some (.b true, H') /\ HS q n TBL col' path ord' tP' tO' H' /\ Dfs E n col' path ord' /\ col' i = 2 /\ (∀ x, col x = 2 -> col' x = 2) /\ whites n col' <= whites n col /\ H'[q.rR]? = H[q.rR]?) := by
  intro k i col path ord tP tO H hi h hd hl hc
  rcases hc with hc | hc
  ·left
   have hm := (hd.pin i).2 ⟨hi, hc⟩
   obtain ⟨j, hj, e⟩ := List.getElem_of_mem hm
   have hk : path[j]? = some i := by rw [List.getElem?_eq_getElem hj, e]
   have hpl := (plen hd).1
   have nd := h.nd
   simp only [Q90.ids, List.nodup_cons, List.mem_cons, List.mem_nil_iff, or_false, not_or, not_false_eq_true, List.nodup_nil, and_true] at nd
   exact ⟨path.drop j, _, body90_one hF h hi hc hk hd.pnd (by omega), by rw [List.getElem?_set_self (h.lt q.rR (by simp [Q90.ids]))], hd.ring hirr hasy hk hl, _, by rw [List.getElem?_set_ne (by omega)]; exact h.hO⟩
  ·exact .inr ⟨col, ord, tP, tO, H, body90_two hF h hi hc, h, hd, hc, fun x hx => hx, Nat.le_refl _, rfl⟩
 intro k
 induction k with
 | zero =>
  intro i col path ord tP tO H hi h hd hl hw
  have h2 := hd.le2 i
  refine known 0 i col path ord tP tO H hi h hd hl ?_
  apply Classical.byContradiction
  intro hno
  have hc : col i = 0 := by omega
  have : 0 < whites n col := List.countP_pos_iff.2 ⟨i, List.mem_range.2 hi, by simpa using hc⟩
  omega
 | succ k ih =>
  intro i col path ord tP tO H hi h hd hl hw
  have h2 := hd.le2 i
  by_cases hc : col i = 0
  ·obtain ⟨hp1, ho1⟩ := plen hd
   obtain ⟨tP1, H1, g1, g2, g3⟩ := white_pre (pg := pg) hF h hi hc (by omega)
   have hd1 := hd.enter hi hc hl
   have hw1 : whites n (colU col i 1) < whites n col := by
    refine countP_lt' _ (fun x hx hp => ?_) ⟨i, List.mem_range.2 hi, by simpa using hc, by simp [colU]⟩
    simp only [decide_eq_true_eq] at hp ⊢
    unfold colU at hp
    split at hp
    ·omega
    ·exact hp
   obtain ⟨b, tab, rfl, ht1, ht2⟩ := hT
   obtain ⟨row, hr1, hr2, hr3⟩ := ht2 i hi
   obtain ⟨p, p1, p2⟩ := ixRw (pg := pg) (H := H1) (b := b) hr1
   have lt := ldC1 (pg := pg) g2.hT (by cases tab <;> rfl)
   have lr := lnB elB b row
   rw [hr2] at lr
   have body : ∀ Q, den pg l90_1 [(0, .i .i64 (i : Int)), (1, .ref q.rS 0), (2, .ref q.rP 0), (5, .ref q.rF 0), (6, .ref q.rO 0), (37, elB.lt b row), (38, .i .i64 (n : Int)), (39, .i .i64 0)] H1 = some Q ->
     go pg (den pg) [.c (.seq r90_5 (.seq r90_6 (.seq r90_7 (.seq r90_8 (.seq r90_9 r90_10)))))] .normal [(0, .i .i64 (i : Int)), (1, .ref q.rS 0), (2, .ref q.rP 0), (4, .ref q.rT 0), (5, .ref q.rF 0), (6, .ref q.rO 0)] H1 = cont pg (den pg) (some Q) [.blk 0, .c (.seq r90_6 (.seq r90_7 (.seq r90_8 (.seq r90_9 r90_10))))] := by
    intro Q hQ
    rw [<- hQ]
    clear hQ g1 g2 g3 hd1 hw1 known plen ih h hd hl hw hr1 hr3 ht2
    generalize (elRw elB b).lt b tab = TB at *
    generalize elB.lt b row = RW at *
    generalize (i : Int) = I at *
    generalize (n : Int) = N at *
    simp (disch := omega) [r90_5, Z0, Z1, Z2, Z3, Z4, Z5, Z6, Z7, Z8, Z9, Za, Zb, Zc, Zd, Ze, Zf, Zg, Zh, Zi, Zj, Zk, Zl, Zm, Zn, Zo, Zp, Zq, Zr, Zs, Zt, Zu, Zv, Zw, Zx, k_mv, Zy, Zz, ZA, ZB, ZC, ZD, ZE, ZF, ZG, ZH, ZI, ZJ, ZK, ZL, ZM, ZN, ZO, ZP, ZQ, ZR, ZS, ZT, ZU, ZV, ZW, ZX, ZY, ZZ, Y0, Y1, Y2, Y3, Y4, k_mn, k_mx, Y5, Y6, Y7, Y8, Y9, Ya, Yb, Yc, Yd, Ye, Yf, Yg, Yh, Dn.setLast, Dn.getLast, evalO, mapO, Dn.get, putE, Yi, Yj, Yk, Yl, TV.one, TV.isAgg, Dn.part, Ym, negb, at0, at1, at2, at3, at4, dT, dF, Yn, Option.bind_some, Option.map_some, lt, p1, p2, lr, go_denK (c := l90_1) rfl]
   rcases l90_1_all (pg := pg) (by omega) ih (b := b) hr3 (path := path ++ [i]) (by simp) n 0 _ ord tP1 tO H1 (by omega) g2 hd1 (fun z hz => by omega) (by omega) with ⟨r', H', k1, k2, k3, k4⟩ | ⟨c2, o2, u1, u2, H2, e, k1, k2, k3, k4, k5, k6, k7⟩
   ·left
    refine ⟨r', H', body_of (x := .ret) (e := [(8, .b false)]) (d := d90) (by rw [hF.F]; rfl) rfl ?_ (.inl rfl) rfl, k2, k3, k4⟩
    show go pg (den pg) [.c c90] .normal _ H = _
    refine g1.trans ((body _ k1).trans ?_)
    simp [Z0, Z1, Z2, Z3, Z4, Z5, Z6, Z7, Z8, Z9, Za, Zb, Zc, Zd, Ze, Zf, Zg, Zh, Zi, Zj, Zk, Zl, Zm, Zn, Zo, Zp, Zq, Zr, Zs, Zt, Zu, Zv, Zw, Zx, k_mv, Zy, Zz, ZA, ZB, ZC, ZD, ZE, ZF, ZG, ZH, ZI, ZJ, ZK, ZL, ZM, ZN, ZO, ZP, ZQ, ZR, ZS, ZT, ZU, ZV, ZW, ZX, ZY, ZZ, Y0, Y1, Y2, Y3, Y4, k_mn, k_mx, Y5, Y6, Y7, Y8, Y9, Ya, Yb, Yc, Yd, Ye, Yf, Yg, Yh, Dn.setLast, Dn.getLast, evalO, mapO, Dn.get, putE, Yi, Yj, Yk, Yl, TV.one, TV.isAgg, Dn.part, Ym, negb, at0, at1, at2, at3, at4, dT, dF, Yn, Option.bind_some, Option.map_some]
   ·right
    obtain ⟨tP2, tO2, H3, m1, m2, m3⟩ := white_post (pg := pg) hF k2 hi (by omega) (by have := (plen k3).2; omega) e
    refine ⟨_, _, tP2, tO2, H3, body_of (x := .ret) (e := [(8, .b true)]) (d := d90) (by rw [hF.F]; rfl) rfl ?_ (.inl rfl) rfl, m2, k3.leave k4, by simp [colU], fun x hx => ?_, ?_, by rw [m3, k7, g3]⟩
    ·show go pg (den pg) [.c c90] .normal _ H = _
     refine g1.trans ((body _ k1).trans ?_)
     rw [<- m1]
     simp [Z0, Z1, Z2, Z3, Z4, Z5, Z6, Z7, Z8, Z9, Za, Zb, Zc, Zd, Ze, Zf, Zg, Zh, Zi, Zj, Zk, Zl, Zm, Zn, Zo, Zp, Zq, Zr, Zs, Zt, Zu, Zv, Zw, Zx, k_mv, Zy, Zz, ZA, ZB, ZC, ZD, ZE, ZF, ZG, ZH, ZI, ZJ, ZK, ZL, ZM, ZN, ZO, ZP, ZQ, ZR, ZS, ZT, ZU, ZV, ZW, ZX, ZY, ZZ, Y0, Y1, Y2, Y3, Y4, k_mn, k_mx, Y5, Y6, Y7, Y8, Y9, Ya, Yb, Yc, Yd, Ye, Yf, Yg, Yh, Dn.setLast, Dn.getLast, evalO, mapO, Dn.get, putE, Yi, Yj, Yk, Yl, TV.one, TV.isAgg, Dn.part, Ym, negb, at0, at1, at2, at3, at4, dT, dF, Yn, Option.bind_some, Option.map_some]
    ·have hxi : x ≠ i := fun e => by rw [e] at hx; omega
     unfold colU
     rw [if_neg hxi]
     exact k5 x (by unfold colU; rw [if_neg hxi]; exact hx)
    ·have : whites n (colU c2 i 2) <= whites n c2 := countP_le' _ fun x hx hp => by
      simp only [decide_eq_true_eq] at hp ⊢
      unfold colU at hp
      split at hp
      ·omega
      ·exact hp
     omega
  ·exact known (k + 1) i col path ord tP tO H hi h hd hl (by omega)

end Go.Proofs.Try.Dn

