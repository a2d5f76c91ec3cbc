/-
  Two dice compared, in the program and in the reference.
-/
import Derived.Test.YtijeefncmgjlpaaEa
set_option linter.unusedSimpArgs false
set_option linter.unusedVariables false

namespace Go.Proofs.Try.Dn
open Go.Dn

def cGt (x : Int) (b : List Int) : Nat := b.countP fun y => decide (y < x)
def cLt (x : Int) (b : List Int) : Nat := b.countP fun y => decide (x < y)
def cEq (x : Int) (b : List Int) : Nat := b.countP fun y => decide (x = y)
def more (a b : List Int) : Nat := (a.map fun x => cGt x b).sum
def less (a b : List Int) : Nat := (a.map fun x => cLt x b).sum
def same (a b : List Int) : Nat := (a.map fun x => cEq x b).sum

theorem cnt_cons (x y : Int) (b : List Int) : cGt x (y :: b) = cGt x b + (if y < x then 1 else 0) ∧ cLt x (y :: b) = cLt x b + (if x < y then 1 else 0) ∧ cEq x (y :: b) = cEq x b + (if x = y then 1 else 0) := by
  unfold cGt cLt cEq
  simp only [List.countP_cons, decide_eq_true_eq]
  exact ⟨trivial, trivial, trivial⟩

theorem cnt_all (x : Int) : ∀ b : List Int, cGt x b + cLt x b + cEq x b = b.length
  | [] => rfl
  | y :: b => by
    obtain ⟨h1, h2, h3⟩ := cnt_cons x y b
    have := cnt_all x b
    rw [h1, h2, h3, List.length_cons]
    rcases Int.lt_trichotomy x y with h | h | h
    · rw [if_neg (by omega), if_pos h, if_neg (by omega)]; omega
    · rw [if_neg (by omega), if_neg (by omega), if_pos h]; omega
    · rw [if_pos h, if_neg (by omega), if_neg (by omega)]; omega

theorem cmp_all (b : List Int) : ∀ a : List Int, more a b + less a b + same a b = a.length * b.length
  | [] => by simp [more, less, same]
  | x :: a => by
    have h1 := cmp_all b a
    have h2 := cnt_all x b
    unfold more less same at *
    simp only [List.map_cons, List.sum_cons, List.length_cons, Nat.succ_mul]
    omega

/-! the reference -/
end Go.Proofs.Try.Dn

/-
  Two dice compared by the program; which die beats which.
-/

namespace Go.Proofs.Try.Dn
open Go.Dn

def hC (m l s : Nat) : Heap := [.cells [.i .i64 0, .i .i64 0, .i .i64 0] true, .cells [.i .i64 (m : Int), .i .i64 (l : Int), .i .i64 (s : Int)] true]

theorem l65_1_all {pg : Pg} {A B C D E F : TV} {b : List Int} {x : Int} (hB : SV B b) : ∀ (n j m l s : Nat), j + n = b.length → m + l + s + n ≤ 1000000 → b.length ≤ 1000000 →
    ∃ v, den pg l65_1 [(1, B), (4, C), (5, .ref 1 0), (7, .i .i64 x), (10, A), (11, D), (12, E), (16, B), (17, .i .i64 (b.length : Int)), (18, .i .i64 (j : Int))] (hC m l s) =
      some ⟨.exit 2, [(1, B), (4, C), (5, .ref 1 0), (7, .i .i64 x), (10, A), (11, D), (12, E), (16, B), (17, .i .i64 (b.length : Int)), (18, .i .i64 (b.length : Int)), (19, v)], hC (m + cGt x (b.drop j)) (l + cLt x (b.drop j)) (s + cEq x (b.drop j))⟩
  | 0, j, m, l, s, hj, hb, hl => by
    obtain rfl : j = b.length := by omega
    refine ⟨.b false, ?_⟩
    simp only [List.drop_length, show cGt x [] = 0 from rfl, show cLt x [] = 0 from rfl, show cEq x [] = 0 from rfl, Nat.add_zero]
    rw [l65_1, den_loop]
    simp (disch := omega) [b65_0, gX0, gX1, gX2, gX3, gX4, gX5, gX6, gX7, gX8, gX9, gXa, gXb, gXc, gXd, gXe, gXf, gXg, gXh, gXi, gXj, gXk, gXl, gXm, gXn, gXo, gXp, gXq, gXr, gXs, gXt, gXu, gXv, gXw, gXx, k_mv, gXy, gXz, gX01, gX11, gX21, gX31, gX41, gX51, gX61, gX71, gX81, gX91, gXa1, gXb1, gXc1, gXd1, gXe1, gXf1, gXg1, gXh1, gXi1, gXj1, gXk1, gXl1, gXm1, gXn1, gXo1, gXp1, gXq1, gXr1, gXs1, gXt1, gXu1, k_mn, k_mx, gXv1, gXw1, gXx1, gXy1, gXz1, gX02, gX12, gX22, gX32, gX42, gX52, gX62, gX72, Dn.setLast, Dn.getLast, evalO, mapO, Dn.get, putE, gX82, gX92, gXa2, gXb2, TV.one, TV.isAgg, Dn.part, gXc2, negb, at0, at1, at2, at3, at4, dT, dF, gXd2, Option.bind_some, Option.map_some]
  | n + 1, j, m, l, s, hj, hb, hl => by
    obtain ⟨y, hy⟩ : ∃ y, b[j]? = some y := ⟨_, List.getElem?_eq_getElem (by omega)⟩
    obtain ⟨q, q1, q2⟩ := ixI (pg := pg) (R := den pg) (hB.view (hC m l s)) hy
    have hd : b.drop j = y :: b.drop (j + 1) := by
      obtain ⟨h1, rfl⟩ := List.getElem?_eq_some_iff.1 hy
      exact List.drop_eq_getElem_cons h1
    obtain ⟨e1, e2, e3⟩ := cnt_cons x y (b.drop (j + 1))
    rw [hd, e1, e2, e3]
    obtain ⟨N, hN⟩ : ∃ N, N = b.length := ⟨_, rfl⟩
    rw [← hN] at hj ⊢
    have dj : decide ((j : Int) < (N : Int)) = true := dT (by omega)
    rcases Int.lt_trichotomy x y with h | h | h
    · obtain ⟨v, r⟩ := l65_1_all (pg := pg) (A := A) (C := C) (D := D) (E := E) (F := F) (x := x) hB n (j + 1) m (l + 1) s (by omega) (by omega) hl
      rw [← hN] at r
      rw [if_neg (by omega), if_pos h, if_neg (by omega)]
      refine ⟨v, Eq.trans ?_ (r.trans (by simp only [Nat.add_zero, show l + 1 + cLt x (b.drop (j + 1)) = l + (cLt x (b.drop (j + 1)) + 1) by omega]))⟩
      unfold hC at *
      rw [l65_1, den_loop]
      simp (disch := omega) [l65_1, b65_0, gX0, gX1, gX2, gX3, gX4, gX5, gX6, gX7, gX8, gX9, gXa, gXb, gXc, gXd, gXe, gXf, gXg, gXh, gXi, gXj, gXk, gXl, gXm, gXn, gXo, gXp, gXq, gXr, gXs, gXt, gXu, gXv, gXw, gXx, k_mv, gXy, gXz, gX01, gX11, gX21, gX31, gX41, gX51, gX61, gX71, gX81, gX91, gXa1, gXb1, gXc1, gXd1, gXe1, gXf1, gXg1, gXh1, gXi1, gXj1, gXk1, gXl1, gXm1, gXn1, gXo1, gXp1, gXq1, gXr1, gXs1, gXt1, gXu1, k_mn, k_mx, gXv1, gXw1, gXx1, gXy1, gXz1, gX02, gX12, gX22, gX32, gX42, gX52, gX62, gX72, Dn.setLast, Dn.getLast, evalO, mapO, Dn.get, putE, gX82, gX92, gXa2, gXb2, TV.one, TV.isAgg, Dn.part, gXc2, negb, at0, at1, at2, at3, at4, dT, dF, gXd2, Option.bind_some, Option.map_some, put2, dj, q1, q2, h]
    · obtain ⟨v, r⟩ := l65_1_all (pg := pg) (A := A) (C := C) (D := D) (E := E) (F := F) (x := x) hB n (j + 1) m l (s + 1) (by omega) (by omega) hl
      rw [← hN] at r
      rw [if_neg (by omega), if_neg (by omega), if_pos h]
      refine ⟨v, Eq.trans ?_ (r.trans (by simp only [Nat.add_zero, show s + 1 + cEq x (b.drop (j + 1)) = s + (cEq x (b.drop (j + 1)) + 1) by omega]))⟩
      subst h
      unfold hC at *
      rw [l65_1, den_loop]
      simp (disch := omega) [l65_1, b65_0, gX0, gX1, gX2, gX3, gX4, gX5, gX6, gX7, gX8, gX9, gXa, gXb, gXc, gXd, gXe, gXf, gXg, gXh, gXi, gXj, gXk, gXl, gXm, gXn, gXo, gXp, gXq, gXr, gXs, gXt, gXu, gXv, gXw, gXx, k_mv, gXy, gXz, gX01, gX11, gX21, gX31, gX41, gX51, gX61, gX71, gX81, gX91, gXa1, gXb1, gXc1, gXd1, gXe1, gXf1, gXg1, gXh1, gXi1, gXj1, gXk1, gXl1, gXm1, gXn1, gXo1, gXp1, gXq1, gXr1, gXs1, gXt1, gXu1, k_mn, k_mx, gXv1, gXw1, gXx1, gXy1, gXz1, gX02, gX12, gX22, gX32, gX42, gX52, gX62, gX72, Dn.setLast, Dn.getLast, evalO, mapO, Dn.get, putE, gX82, gX92, gXa2, gXb2, TV.one, TV.isAgg, Dn.part, gXc2, negb, at0, at1, at2, at3, at4, dT, dF, gXd2, Option.bind_some, Option.map_some, put2, dj, q1, q2]
    · obtain ⟨v, r⟩ := l65_1_all (pg := pg) (A := A) (C := C) (D := D) (E := E) (F := F) (x := x) hB n (j + 1) (m + 1) l s (by omega) (by omega) hl
      rw [← hN] at r
      rw [if_pos h, if_neg (by omega), if_neg (by omega)]
      refine ⟨v, Eq.trans ?_ (r.trans (by simp only [Nat.add_zero, show m + 1 + cGt x (b.drop (j + 1)) = m + (cGt x (b.drop (j + 1)) + 1) by omega]))⟩
      unfold hC at *
      rw [l65_1, den_loop]
      simp (disch := omega) [l65_1, b65_0, gX0, gX1, gX2, gX3, gX4, gX5, gX6, gX7, gX8, gX9, gXa, gXb, gXc, gXd, gXe, gXf, gXg, gXh, gXi, gXj, gXk, gXl, gXm, gXn, gXo, gXp, gXq, gXr, gXs, gXt, gXu, gXv, gXw, gXx, k_mv, gXy, gXz, gX01, gX11, gX21, gX31, gX41, gX51, gX61, gX71, gX81, gX91, gXa1, gXb1, gXc1, gXd1, gXe1, gXf1, gXg1, gXh1, gXi1, gXj1, gXk1, gXl1, gXm1, gXn1, gXo1, gXp1, gXq1, gXr1, gXs1, gXt1, gXu1, k_mn, k_mx, gXv1, gXw1, gXx1, gXy1, gXz1, gX02, gX12, gX22, gX32, gX42, gX52, gX62, gX72, Dn.setLast, Dn.getLast, evalO, mapO, Dn.get, putE, gX82, gX92, gXa2, gXb2, TV.one, TV.isAgg, Dn.part, gXc2, negb, at0, at1, at2, at3, at4, dT, dF, gXd2, Option.bind_some, Option.map_some, put2, dj, q1, q2, h]

theorem l65_3_all {pg : Pg} {A B C : TV} {a b : List Int} (hA : SV A a) (hB : SV B b) (hb : b.length ≤ 100) (ha : a.length ≤ 100) : ∀ (n i m l s : Nat), i + n = a.length → m + l + s + n * b.length ≤ 10000 →
    ∃ v, den pg l65_3 [(1, B), (4, C), (5, .ref 1 0), (10, A), (11, .i .i64 (a.length : Int)), (12, .i .i64 (i : Int))] (hC m l s) =
      some ⟨.exit 0, [(1, B), (4, C), (5, .ref 1 0), (10, A), (11, .i .i64 (a.length : Int)), (12, .i .i64 (a.length : Int)), (13, v)], hC (m + more (a.drop i) b) (l + less (a.drop i) b) (s + same (a.drop i) b)⟩
  | 0, i, m, l, s, hi, hm => by
    obtain rfl : i = a.length := by omega
    refine ⟨.b false, ?_⟩
    simp only [List.drop_length, show more [] b = 0 from rfl, show less [] b = 0 from rfl, show same [] b = 0 from rfl, Nat.add_zero]
    rw [l65_3, den_loop]
    simp (disch := omega) [b65_2, gX0, gX1, gX2, gX3, gX4, gX5, gX6, gX7, gX8, gX9, gXa, gXb, gXc, gXd, gXe, gXf, gXg, gXh, gXi, gXj, gXk, gXl, gXm, gXn, gXo, gXp, gXq, gXr, gXs, gXt, gXu, gXv, gXw, gXx, k_mv, gXy, gXz, gX01, gX11, gX21, gX31, gX41, gX51, gX61, gX71, gX81, gX91, gXa1, gXb1, gXc1, gXd1, gXe1, gXf1, gXg1, gXh1, gXi1, gXj1, gXk1, gXl1, gXm1, gXn1, gXo1, gXp1, gXq1, gXr1, gXs1, gXt1, gXu1, k_mn, k_mx, gXv1, gXw1, gXx1, gXy1, gXz1, gX02, gX12, gX22, gX32, gX42, gX52, gX62, gX72, Dn.setLast, Dn.getLast, evalO, mapO, Dn.get, putE, gX82, gX92, gXa2, gXb2, TV.one, TV.isAgg, Dn.part, gXc2, negb, at0, at1, at2, at3, at4, dT, dF, gXd2, Option.bind_some, Option.map_some]
  | n + 1, i, m, l, s, hi, hm => by
    obtain ⟨x, hx⟩ : ∃ x, a[i]? = some x := ⟨_, List.getElem?_eq_getElem (by omega)⟩
    have hd : a.drop i = x :: a.drop (i + 1) := by
      obtain ⟨h1, rfl⟩ := List.getElem?_eq_some_iff.1 hx
      exact List.drop_eq_getElem_cons h1
    rw [Nat.succ_mul] at hm
    have hall := cnt_all x b
    obtain ⟨N, hN⟩ : ∃ N, N = a.length := ⟨_, rfl⟩
    obtain ⟨M, hM⟩ : ∃ M, M = b.length := ⟨_, rfl⟩
    obtain ⟨v, r⟩ := l65_1_all (pg := pg) (A := A) (C := C) (D := .i .i64 (N : Int)) (E := .i .i64 (i : Int)) (F := .undef) (x := x) hB b.length 0 m l s (by omega) (by omega) (by omega)
    rw [List.drop_zero, ← hM] at r
    obtain ⟨v', r'⟩ := l65_3_all (pg := pg) (C := C) hA hB hb ha n (i + 1) (m + cGt x b) (l + cLt x b) (s + cEq x b) (by omega) (by omega)
    refine ⟨v', Eq.trans ?_ (r'.trans (by
      rw [hd]
      unfold more less same
      simp only [List.map_cons, List.sum_cons, Nat.add_assoc]))⟩
    have ln := (hB.view (hC m l s)).lenK
    rw [← hM] at ln
    obtain ⟨p, p1, p2⟩ := ixI (pg := pg) (R := den pg) (hA.view (hC m l s)) hx
    generalize hC (m + cGt x b) (l + cLt x b) (s + cEq x b) = H' at *
    generalize hC m l s = H at *
    rw [← hN] at hi ⊢
    have di : decide ((i : Int) < (N : Int)) = true := dT (by omega)
    simp only [Int.natCast_zero] at r
    rw [l65_3, den_loop]
    simp (disch := omega) [l65_3, b65_2, gX0, gX1, gX2, gX3, gX4, gX5, gX6, gX7, gX8, gX9, gXa, gXb, gXc, gXd, gXe, gXf, gXg, gXh, gXi, gXj, gXk, gXl, gXm, gXn, gXo, gXp, gXq, gXr, gXs, gXt, gXu, gXv, gXw, gXx, k_mv, gXy, gXz, gX01, gX11, gX21, gX31, gX41, gX51, gX61, gX71, gX81, gX91, gXa1, gXb1, gXc1, gXd1, gXe1, gXf1, gXg1, gXh1, gXi1, gXj1, gXk1, gXl1, gXm1, gXn1, gXo1, gXp1, gXq1, gXr1, gXs1, gXt1, gXu1, k_mn, k_mx, gXv1, gXw1, gXx1, gXy1, gXz1, gX02, gX12, gX22, gX32, gX42, gX52, gX62, gX72, Dn.setLast, Dn.getLast, evalO, mapO, Dn.get, putE, gX82, gX92, gXa2, gXb2, TV.one, TV.isAgg, Dn.part, gXc2, negb, at0, at1, at2, at3, at4, dT, dF, gXd2, Option.bind_some, Option.map_some, ln, di, p1, p2, go_denK (c := l65_1) rfl, r]

theorem fn65 {pg : Pg} (hF : Free pg) {A B : TV} {a b : List Int} (hA : SV A a) (hB : SV B b) (ha : a.length ≤ 100) (hb : b.length ≤ 100) : PFn pg 65 [A, B] (.agg [.i .i64 (more a b : Int), .i .i64 (less a b : Int), .i .i64 (same a b : Int)]) := by
  have hab : a.length * b.length ≤ 100 * 100 := Nat.mul_le_mul ha hb
  obtain ⟨v, r⟩ := l65_3_all (pg := pg) (C := .ref 0 0) hA hB hb ha a.length 0 0 0 0 (by omega) (by omega)
  rw [List.drop_zero] at r
  simp only [Nat.zero_add, Int.natCast_zero] at r
  have ln := (hA.view (hC 0 0 0)).lenK
  refine .inr ⟨hF.S _ _, .agg [.i .i64 (more a b : Int), .i .i64 (less a b : Int), .i .i64 (same a b : Int)], [.cells [.i .i64 (more a b : Int), .i .i64 (less a b : Int), .i .i64 (same a b : Int)] true, .cells [.i .i64 (more a b : Int), .i .i64 (less a b : Int), .i .i64 (same a b : Int)] true], ?_, by simp [sn_i, sn_b, gXe2, gXf2, gXg2, gXh2, gXi2, gXj2, gXk2, gXl2, gXm2, gXn2, gXo2, gXp2, mapO, elems]⟩
  refine body_of (x := .ret) (e := [(4, .ref 0 0)]) (d := d65) (by rw [hF.F]; rfl) rfl ?_ (.inl rfl) rfl
  unfold hC at r
  generalize more a b = M at *
  generalize less a b = L at *
  generalize same a b = S at *
  simp only [Int.natCast_zero] at r
  simp (disch := omega) [d65, c65, zipE, gX0, gX1, gX2, gX3, gX4, gX5, gX6, gX7, gX8, gX9, gXa, gXb, gXc, gXd, gXe, gXf, gXg, gXh, gXi, gXj, gXk, gXl, gXm, gXn, gXo, gXp, gXq, gXr, gXs, gXt, gXu, gXv, gXw, gXx, k_mv, gXy, gXz, gX01, gX11, gX21, gX31, gX41, gX51, gX61, gX71, gX81, gX91, gXa1, gXb1, gXc1, gXd1, gXe1, gXf1, gXg1, gXh1, gXi1, gXj1, gXk1, gXl1, gXm1, gXn1, gXo1, gXp1, gXq1, gXr1, gXs1, gXt1, gXu1, k_mn, k_mx, gXv1, gXw1, gXx1, gXy1, gXz1, gX02, gX12, gX22, gX32, gX42, gX52, gX62, gX72, Dn.setLast, Dn.getLast, evalO, mapO, Dn.get, putE, gX82, gX92, gXa2, gXb2, TV.one, TV.isAgg, Dn.part, gXc2, negb, at0, at1, at2, at3, at4, dT, dF, gXd2, Option.bind_some, Option.map_some, put2, ln, go_denK (c := l65_3) rfl, r]

end Go.Proofs.Try.Dn

/-
  Which die beats which.
-/

namespace Go.Proofs.Try.Dn
open Go.Dn

def bt (a b : List Int) : Bool := decide (less a b < more a b)

theorem al3 {pg : Pg} (H : Heap) (m l s : Int) : ∃ H1 H2 : Heap, dkc pg (den pg) (.alloc [.i .i64 0, .i .i64 0, .i .i64 0] true) [] H = some (.ref H.length 0, H1) ∧ dkc pg (den pg) (.st 3) [.ref H.length 0, .agg [.i .i64 m, .i .i64 l, .i .i64 s]] H1 = some (.undef, H2) ∧
    H2[H.length]? = some (.cells [.i .i64 m, .i .i64 l, .i .i64 s] true) ∧ (∀ j, j < H.length → H2[j]? = H[j]?) ∧ H2.length = H.length + 1 := by
  refine ⟨_, H ++ [.cells [.i .i64 m, .i .i64 l, .i .i64 s] true], gX51 _ _ _, ?_, getLast _ _, fun j hj => List.getElem?_append_left hj, by simp⟩
  rw [gXf1, getLast]
  simp [stC, put2, TV.one]

end Go.Proofs.Try.Dn

/-
  The table of which die beats which.
-/

namespace Go.Proofs.Try.Dn
open Go.Dn

theorem body_ofs {pg : Pg} {f : Nat} {xs : List TV} {d : DFun} {x : Ex} {e : Env} {H H' : Heap} {vs : List TV} (hd : pg.F f = some d) (hl : xs.length = d.np)
    (ho : go pg (den pg) [.c d.body] .normal (zipE xs 0) H = some ⟨x, e, H'⟩) (hx : x = .ret ∨ x = .normal) (hv : mapO (resRun e H') d.res = some vs) : bodyRun pg (den pg) f xs H = some (tupR vs, H') := by
  refine bodyRun_of (vs := vs) (o := ⟨x, e, H'⟩) hd hl (by rw [runC_go]; exact ho) ?_ hv
  intro id
  rcases hx with rfl | rfl <;> simp

theorem snapSSV {T : TV} {l : List (List Int)} (hT : SSV T l) (H : Heap) : ∃ T', snapArgs H [] [T] = some [T'] ∧ SSV T' l := by
  obtain ⟨t', h1, h2⟩ := hT.snap H 6
  exact ⟨t', by simp [snapArgs, h1], h2⟩

theorem call55 {pg : Pg} (hF : Free pg) {T : TV} {ls : List (List Int)} (hT : SSV T ls) (hl : ls.length ≤ 1000000) (hL : ∀ x ∈ ls, x.length ≤ 1000000) (H : Heap) : callRun pg (den pg) (.pu []) [.fn 55 [] [], T] H = some (.i .i64 (chkD ls), H) := by
  obtain ⟨T', s1, s2⟩ := snapSSV hT H
  exact PFn.call (fn55 hF s2 hl hL) (args := [T]) (ks := []) (fs := []) (cs := []) (by simpa using s1)

end Go.Proofs.Try.Dn

/-
  Compare: two lists, dice or not.
-/

namespace Go.Proofs.Try.Dn
open Go.Dn

theorem SV.cells' {A : TV} {a : List Int} (h : SV A a) : A.cells = [A] := by
  rcases h with ⟨rfl, _⟩ | ⟨b, rfl⟩ <;> rfl

theorem two {pg : Pg} {A B : TV} {a b : List Int} (hA : SV A a) (hB : SV B b) (H : Heap) : dkc pg (den pg) (.bsl false [.nilsl] false 2 [0, 1]) [A, B] H = some (.sl H.length 0 1 false 2 (some 2), H ++ [.cells [A, B] false]) ∧
    ∃ T, snap .borrow (H ++ [.cells [A, B] false]) 9 (.sl H.length 0 1 false 2 (some 2)) = some T ∧ SSV T [a, b] := by
  refine ⟨by simp [dkc, dk, fillP, repl, put2, hA.one, hB.one, SV.cells' hA, SV.cells' hB], ?_⟩
  obtain ⟨A', s1, hA'⟩ := hA.snap (H ++ [.cells [A, B] false]) 6
  obtain ⟨B', s2, hB'⟩ := hB.snap (H ++ [.cells [A, B] false]) 6
  refine ⟨.bs true 1 [A', B'], ?_, .inr ⟨true, _, rfl, rfl, fun i e x he hx => ?_⟩⟩
  · rw [snS_sl _ (by decide), getLast, gXm2, if_pos ⟨by simp, .inr rfl⟩]
    show (mapO (Dn.snap .borrow _ 8) [A, B]).map _ = _
    rw [mapO, s1, Option.bind_some, mapO, s2, Option.bind_some, mapO]
    rfl
  · match i with
    | 0 => simp at he hx; subst he hx; exact hA'
    | 1 => simp at he hx; subst he hx; exact hB'
    | i + 2 => simp at he

theorem fn33 {pg : Pg} (hF : Free pg) {A B : TV} {a b : List Int} (hA : SV A a) (hB : SV B b) (ha : a.length ≤ 100) (hb : b.length ≤ 100) :
    PFn pg 33 [A, B] (if chkD [a, b] = 0 then .tup [.i .i64 (more a b : Int), .i .i64 (less a b : Int), .i .i64 (same a b : Int), .i .i64 0] else .tup [.i .i64 0, .i .i64 0, .i .i64 0, .i .i64 (chkD [a, b])]) := by
  obtain ⟨b1, T, b2, hT⟩ := two (pg := pg) hA hB []
  obtain ⟨H1, hH1⟩ : ∃ H1, H1 = ([] : Heap) ++ [AObj.cells [A, B] false] := ⟨_, rfl⟩
  rw [← hH1] at b1 b2
  simp only [List.length_nil] at b1 b2
  have c55 := PFn.call (fn55 (pg := pg) hF hT (by simp) (fun x hx => by simp at hx; rcases hx with rfl | rfl <;> omega)) (args := [.sl 0 0 1 false 2 (some 2)]) (ks := []) (fs := []) (cs := []) (H := H1) (by simp [snapArgs, b2])
  have hd : pg.F 33 = some d33 := by rw [hF.F]; rfl
  obtain ⟨A', s1, hA'⟩ := hA.snap H1 7
  obtain ⟨B', s2, hB'⟩ := hB.snap H1 7
  have c65 := PFn.call (fn65 (pg := pg) hF hA' hB' ha hb) (args := [A, B]) (ks := []) (fs := []) (cs := []) (H := H1) (by simp [snapArgs, s1, s2])
  obtain ⟨K1, K2, a1, a2, a3, -, -⟩ := al3 (pg := pg) H1 (more a b : Int) (less a b : Int) (same a b : Int)
  clear hH1
  generalize (more a b : Int) = M at *
  generalize (less a b : Int) = L at *
  generalize (same a b : Int) = S at *
  by_cases h0 : chkD [a, b] = 0
  · rw [if_pos h0]
    rw [h0] at c55
    refine .of2 (x := .ret) (e := [(4, .i .i64 M), (5, .i .i64 L), (6, .i .i64 S), (7, .i .i64 0)]) (H' := K2) (hF.S _ _) (d := d33) hd rfl ?_ (.inl rfl) rfl (by simp) (by simp [mapO, sn_i, sn_b, gXe2, gXf2, gXg2, gXh2, gXi2, gXj2, gXk2, gXl2, gXm2, gXn2, gXo2, gXp2, mapO, elems])
    simp (disch := omega) [d33, c33, zipE, gX0, gX1, gX2, gX3, gX4, gX5, gX6, gX7, gX8, gX9, gXa, gXb, gXc, gXd, gXe, gXf, gXg, gXh, gXi, gXj, gXk, gXl, gXm, gXn, gXo, gXp, gXq, gXr, gXs, gXt, gXu, gXv, gXw, gXx, k_mv, gXy, gXz, gX01, gX11, gX21, gX31, gX41, gX51, gX61, gX71, gX81, gX91, gXa1, gXb1, gXc1, gXd1, gXe1, gXf1, gXg1, gXh1, gXi1, gXj1, gXk1, gXl1, gXm1, gXn1, gXo1, gXp1, gXq1, gXr1, gXs1, gXt1, gXu1, k_mn, k_mx, gXv1, gXw1, gXx1, gXy1, gXz1, gX02, gX12, gX22, gX32, gX42, gX52, gX62, gX72, Dn.setLast, Dn.getLast, evalO, mapO, Dn.get, putE, gX82, gX92, gXa2, gXb2, TV.one, TV.isAgg, Dn.part, gXc2, negb, at0, at1, at2, at3, at4, dT, dF, gXd2, Option.bind_some, Option.map_some, b1, c55, c65, a1, a2, a3]
  · rw [if_neg h0]
    refine .of2 (x := .ret) (e := [(4, .i .i64 0), (5, .i .i64 0), (6, .i .i64 0), (7, .i .i64 (chkD [a, b]))]) (H' := H1) (hF.S _ _) (d := d33) hd rfl ?_ (.inl rfl) rfl (by simp) (by simp [mapO, sn_i, sn_b, gXe2, gXf2, gXg2, gXh2, gXi2, gXj2, gXk2, gXl2, gXm2, gXn2, gXo2, gXp2, mapO, elems])
    generalize chkD [a, b] = C at *
    simp (disch := omega) [d33, c33, zipE, gX0, gX1, gX2, gX3, gX4, gX5, gX6, gX7, gX8, gX9, gXa, gXb, gXc, gXd, gXe, gXf, gXg, gXh, gXi, gXj, gXk, gXl, gXm, gXn, gXo, gXp, gXq, gXr, gXs, gXt, gXu, gXv, gXw, gXx, k_mv, gXy, gXz, gX01, gX11, gX21, gX31, gX41, gX51, gX61, gX71, gX81, gX91, gXa1, gXb1, gXc1, gXd1, gXe1, gXf1, gXg1, gXh1, gXi1, gXj1, gXk1, gXl1, gXm1, gXn1, gXo1, gXp1, gXq1, gXr1, gXs1, gXt1, gXu1, k_mn, k_mx, gXv1, gXw1, gXx1, gXy1, gXz1, gX02, gX12, gX22, gX32, gX42, gX52, gX62, gX72, Dn.setLast, Dn.getLast, evalO, mapO, Dn.get, putE, gX82, gX92, gXa2, gXb2, TV.one, TV.isAgg, Dn.part, gXc2, negb, at0, at1, at2, at3, at4, dT, dF, gXd2, Option.bind_some, Option.map_some, b1, c55, h0]

end Go.Proofs.Try.Dn

