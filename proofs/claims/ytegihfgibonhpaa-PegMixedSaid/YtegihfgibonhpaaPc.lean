/-
  tame makes a board: the loops inside.
-/
import Derived.Test.YtegihfgibonhpaaPb
import Derived.Test.YtegihfgibonhpaaDd
set_option linter.unusedSimpArgs false
set_option linter.unusedVariables false

namespace Go.Proofs.Try.Dn
open Go.Dn

def elL : El Line where
  sz := 3
  ag := true
  enc x := [.i .i64 x.1, .i .i64 x.2.1, .i .i64 x.2.2]
  pos := by decide
  len _ := rfl
  one _ := rfl
  sc := .inl rfl

theorem elL_flat : elL.Flat := by
  intro m H a f
  show snap m H (f + 2) (lineTV a) = some (lineTV a)
  simp [snap_line]

theorem LT_lt (b : Bool) (l : List Line) : LT b l = elL.lt b l := by cases l <;> rfl

section
variable {pg : Pg} {R : Rec}
theorem ixL {H : Heap} {t : TV} {l : List Line} (h : elL.View H t l) {i : Nat} {x : Line} (hx : l[i]? = some x) : ∃ p, dkc pg R (.ixS 3 true) [t, .i .i64 (i : Int)] H = some (p, H) ∧ elL.At H p x ∧ (∀ id o, p = .ref id o → t.idOf = some id) := h.ix hx .i64
theorem cellL {H : Heap} {p : TV} {x : Line} (h : elL.At H p x) {j : Nat} {v : TV} (hv : [TV.i .i64 x.1, .i .i64 x.2.1, .i .i64 x.2.2][j]? = some v) : ∃ q, dkc pg R (.ixA 3 1 false) [p, .i .i64 (j : Int)] H = some (q, H) ∧ dkc pg R (.ld 1 false) [q] H = some (v, H) := h.cell rfl hv .i64
theorem ldL {H : Heap} {p : TV} {x : Line} (h : elL.At H p x) : dkc pg R (.ld 3 true) [p] H = some (lineTV x, H) := h.ld
theorem b_rem (k : IntKind) (x y : Int) : binI .rem (.i k x) (.i k y) = if y = 0 then none else some (.i k (x.tmod y)) := by simp [binI]
end

theorem l18_1_round {pg : Pg} {H : Heap} {N many : Int} {T out : TV} {i k : Nat} {x : Line} {l : List Line} {cs : List TV} (hN : 1 ≤ N ∧ N ≤ 16) (hT : ∀ H, elL.View H T l) (hi : l[i]? = some x) (hk : k < 3) (hc : cs.length = 3) :
    ∃ y, den pg l18_1 [(0, .i .i64 N), (1, T), (3, .i .i64 many), (10, out), (11, .i .i64 (i : Int)), (12, .ref H.length 0), (13, .i .i64 (k : Int))] (H ++ [.cells cs true]) =
      den pg l18_1 [(0, .i .i64 N), (1, T), (3, .i .i64 many), (10, out), (11, .i .i64 (i : Int)), (12, .ref H.length 0), (13, .i .i64 ((k + 1 : Nat) : Int))] (H ++ [.cells (put2 cs k [.i .i64 y]) true]) := by
  have e1 : ((k : Int) < 3) := by omega
  have e2 : wrapR .i64 ((k : Int) + 1) = .i .i64 ((k : Int) + 1) := gX82 (by omega)
  have e3 : ∀ v, wrapR .u64 v = .i .u64 (IntKind.wrap .u64 v) := fun _ => rfl
  have e6 : ∀ a b, wrapR .i64 (Int.tmod a b) = .i .i64 (IntKind.wrap .i64 (Int.tmod a b)) := fun _ _ => rfl
  have e4 : ¬ IntKind.wrap .u64 N = 0 := by simp [IntKind.wrap, IntKind.signed, IntKind.bits]; omega
  have e5 : k + 1 ≤ 3 := by omega
  obtain ⟨p, hp, hat, _⟩ := ixL (pg := pg) (R := den pg) (hT (H ++ [.cells cs true])) hi
  obtain ⟨v, hv⟩ : ∃ v, [TV.i .i64 x.1, .i .i64 x.2.1, .i .i64 x.2.2][k]? = some (.i .i64 v) := by
    match k, hk with
    | 0, _ => exact ⟨_, rfl⟩
    | 1, _ => exact ⟨_, rfl⟩
    | 2, _ => exact ⟨_, rfl⟩
  obtain ⟨q, hq, hr⟩ := cellL (pg := pg) (R := den pg) hat hv
  refine ⟨IntKind.wrap .i64 ((IntKind.wrap .u64 v).tmod (IntKind.wrap .u64 N)), ?_⟩
  rw [l18_1, den_loop]
  simp [l18_1, b18_0, gX0, gX1, gX2, gX3, gX4, gX5, gX6, gX7, gX8, gX9, gXa, gXb, gXc, gXd, gXe, gXf, gXg, gXh, gXi, gXj, gXk, gXl, gXm, gXn, gXo, gXp, gXq, gXr, gXs, gXt, gXu, gXv, gXw, gXx, k_mv, gXy, gXz, gX01, gX11, gX21, gX31, gX41, gX51, gX61, gX71, gX81, gX91, gXa1, gXb1, gXc1, gXd1, gXe1, gXf1, gXg1, gXh1, gXi1, gXj1, gXk1, gXl1, gXm1, gXn1, gXo1, gXp1, gXq1, gXr1, gXs1, gXt1, gXu1, k_mn, k_mx, gXv1, gXw1, gXx1, gXy1, gXz1, gX02, gX12, gX22, gX32, gX42, gX52, gX62, gX72, Dn.setLast, Dn.getLast, evalO, mapO, Dn.get, putE, keepE, TV.one, TV.isAgg, Dn.part, e1, e2, e3, e6, hp, hq, hr, b_rem, e4, hk, hc, e5]

theorem l18_3_round {pg : Pg} {H : Heap} {N many : Int} {T out i : TV} {xid a : Nat} {x z : Line} {m : List Line} (ho : elL.View H out m) (hx : H[xid]? = some (cl x)) (hz : m[a]? = some z) (ha : a < 1000) :
    den pg l18_3 [(0, .i .i64 N), (1, T), (3, .i .i64 many), (10, out), (11, i), (12, .ref xid 0), (14, .i .i64 a)] H = if lt3 z x = true then den pg l18_3 [(0, .i .i64 N), (1, T), (3, .i .i64 many), (10, out), (11, i), (12, .ref xid 0), (14, .i .i64 ((a + 1 : Nat) : Int))] H else some ⟨.exit 4, [(0, .i .i64 N), (1, T), (3, .i .i64 many), (10, out), (11, i), (12, .ref xid 0), (14, .i .i64 a), (117, .b false)], H⟩ := by
  have hl := (List.getElem?_eq_some_iff.1 hz).1
  have e1 : ((a : Int) < (m.length : Int)) := by omega
  have e2 : wrapR .i64 ((a : Int) + 1) = .i .i64 ((a : Int) + 1) := gX82 (by omega)
  have hlen := ho.lenK
  obtain ⟨p, hp, hat, _⟩ := ixL (pg := pg) (R := den pg) ho hz
  obtain ⟨q0, hq0, hr0⟩ := cellL (pg := pg) (R := den pg) hat (j := 0) (v := .i .i64 z.1) rfl
  obtain ⟨q1, hq1, hr1⟩ := cellL (pg := pg) (R := den pg) hat (j := 1) (v := .i .i64 z.2.1) rfl
  obtain ⟨q2, hq2, hr2⟩ := cellL (pg := pg) (R := den pg) hat (j := 2) (v := .i .i64 z.2.2) rfl
  simp only [Int.ofNat_zero, Int.natCast_one, Int.cast_ofNat_Int, Int.natCast_zero] at hq0 hq1 hq2
  by_cases c0 : z.1 < x.1
  · rw [if_pos (by simp [lt3, c0]), l18_3, den_loop]
    simp [l18_3, b18_2, gX0, gX1, gX2, gX3, gX4, gX5, gX6, gX7, gX8, gX9, gXa, gXb, gXc, gXd, gXe, gXf, gXg, gXh, gXi, gXj, gXk, gXl, gXm, gXn, gXo, gXp, gXq, gXr, gXs, gXt, gXu, gXv, gXw, gXx, k_mv, gXy, gXz, gX01, gX11, gX21, gX31, gX41, gX51, gX61, gX71, gX81, gX91, gXa1, gXb1, gXc1, gXd1, gXe1, gXf1, gXg1, gXh1, gXi1, gXj1, gXk1, gXl1, gXm1, gXn1, gXo1, gXp1, gXq1, gXr1, gXs1, gXt1, gXu1, k_mn, k_mx, gXv1, gXw1, gXx1, gXy1, gXz1, gX02, gX12, gX22, gX32, gX42, gX52, gX62, gX72, Dn.setLast, Dn.getLast, evalO, mapO, Dn.get, putE, keepE, TV.one, TV.isAgg, Dn.part, hlen, e1, e2, hp, hq0, hr0, hq1, hr1, hq2, hr2, hx, cl, c0]
  by_cases c1 : z.1 = x.1
  · have c1' : (z.1 == x.1) = true := by simp [c1]
    by_cases c2 : z.2.1 < x.2.1
    · rw [if_pos (by simp [lt3, c1, c2]), l18_3, den_loop]
      simp [l18_3, b18_2, gX0, gX1, gX2, gX3, gX4, gX5, gX6, gX7, gX8, gX9, gXa, gXb, gXc, gXd, gXe, gXf, gXg, gXh, gXi, gXj, gXk, gXl, gXm, gXn, gXo, gXp, gXq, gXr, gXs, gXt, gXu, gXv, gXw, gXx, k_mv, gXy, gXz, gX01, gX11, gX21, gX31, gX41, gX51, gX61, gX71, gX81, gX91, gXa1, gXb1, gXc1, gXd1, gXe1, gXf1, gXg1, gXh1, gXi1, gXj1, gXk1, gXl1, gXm1, gXn1, gXo1, gXp1, gXq1, gXr1, gXs1, gXt1, gXu1, k_mn, k_mx, gXv1, gXw1, gXx1, gXy1, gXz1, gX02, gX12, gX22, gX32, gX42, gX52, gX62, gX72, Dn.setLast, Dn.getLast, evalO, mapO, Dn.get, putE, keepE, TV.one, TV.isAgg, Dn.part, hlen, e1, e2, hp, hq0, hr0, hq1, hr1, hq2, hr2, hx, cl, c0, c1', c2]
    by_cases c3 : z.2.1 = x.2.1
    · have c3' : (z.2.1 == x.2.1) = true := by simp [c3]
      by_cases c4 : z.2.2 < x.2.2
      · rw [if_pos (by simp [lt3, c1, c3, c4]), l18_3, den_loop]
        simp [l18_3, b18_2, gX0, gX1, gX2, gX3, gX4, gX5, gX6, gX7, gX8, gX9, gXa, gXb, gXc, gXd, gXe, gXf, gXg, gXh, gXi, gXj, gXk, gXl, gXm, gXn, gXo, gXp, gXq, gXr, gXs, gXt, gXu, gXv, gXw, gXx, k_mv, gXy, gXz, gX01, gX11, gX21, gX31, gX41, gX51, gX61, gX71, gX81, gX91, gXa1, gXb1, gXc1, gXd1, gXe1, gXf1, gXg1, gXh1, gXi1, gXj1, gXk1, gXl1, gXm1, gXn1, gXo1, gXp1, gXq1, gXr1, gXs1, gXt1, gXu1, k_mn, k_mx, gXv1, gXw1, gXx1, gXy1, gXz1, gX02, gX12, gX22, gX32, gX42, gX52, gX62, gX72, Dn.setLast, Dn.getLast, evalO, mapO, Dn.get, putE, keepE, TV.one, TV.isAgg, Dn.part, hlen, e1, e2, hp, hq0, hr0, hq1, hr1, hq2, hr2, hx, cl, c0, c1', c2, c3', c4]
      · rw [if_neg (by simp [lt3, c1, c3, c4]), l18_3, den_loop]
        simp [l18_3, b18_2, gX0, gX1, gX2, gX3, gX4, gX5, gX6, gX7, gX8, gX9, gXa, gXb, gXc, gXd, gXe, gXf, gXg, gXh, gXi, gXj, gXk, gXl, gXm, gXn, gXo, gXp, gXq, gXr, gXs, gXt, gXu, gXv, gXw, gXx, k_mv, gXy, gXz, gX01, gX11, gX21, gX31, gX41, gX51, gX61, gX71, gX81, gX91, gXa1, gXb1, gXc1, gXd1, gXe1, gXf1, gXg1, gXh1, gXi1, gXj1, gXk1, gXl1, gXm1, gXn1, gXo1, gXp1, gXq1, gXr1, gXs1, gXt1, gXu1, k_mn, k_mx, gXv1, gXw1, gXx1, gXy1, gXz1, gX02, gX12, gX22, gX32, gX42, gX52, gX62, gX72, Dn.setLast, Dn.getLast, evalO, mapO, Dn.get, putE, keepE, TV.one, TV.isAgg, Dn.part, hlen, e1, e2, hp, hq0, hr0, hq1, hr1, hq2, hr2, hx, cl, c0, c1', c2, c3', c4]
    · have c3' : (z.2.1 == x.2.1) = false := by simp [c3]
      rw [if_neg (by simp [lt3, c0, c1, c2, c3]), l18_3, den_loop]
      simp [l18_3, b18_2, gX0, gX1, gX2, gX3, gX4, gX5, gX6, gX7, gX8, gX9, gXa, gXb, gXc, gXd, gXe, gXf, gXg, gXh, gXi, gXj, gXk, gXl, gXm, gXn, gXo, gXp, gXq, gXr, gXs, gXt, gXu, gXv, gXw, gXx, k_mv, gXy, gXz, gX01, gX11, gX21, gX31, gX41, gX51, gX61, gX71, gX81, gX91, gXa1, gXb1, gXc1, gXd1, gXe1, gXf1, gXg1, gXh1, gXi1, gXj1, gXk1, gXl1, gXm1, gXn1, gXo1, gXp1, gXq1, gXr1, gXs1, gXt1, gXu1, k_mn, k_mx, gXv1, gXw1, gXx1, gXy1, gXz1, gX02, gX12, gX22, gX32, gX42, gX52, gX62, gX72, Dn.setLast, Dn.getLast, evalO, mapO, Dn.get, putE, keepE, TV.one, TV.isAgg, Dn.part, hlen, e1, e2, hp, hq0, hr0, hq1, hr1, hq2, hr2, hx, cl, c0, c1', c2, c3']
  · have c1' : (z.1 == x.1) = false := by simp [c1]
    rw [if_neg (by simp [lt3, c0, c1]), l18_3, den_loop]
    simp [l18_3, b18_2, gX0, gX1, gX2, gX3, gX4, gX5, gX6, gX7, gX8, gX9, gXa, gXb, gXc, gXd, gXe, gXf, gXg, gXh, gXi, gXj, gXk, gXl, gXm, gXn, gXo, gXp, gXq, gXr, gXs, gXt, gXu, gXv, gXw, gXx, k_mv, gXy, gXz, gX01, gX11, gX21, gX31, gX41, gX51, gX61, gX71, gX81, gX91, gXa1, gXb1, gXc1, gXd1, gXe1, gXf1, gXg1, gXh1, gXi1, gXj1, gXk1, gXl1, gXm1, gXn1, gXo1, gXp1, gXq1, gXr1, gXs1, gXt1, gXu1, k_mn, k_mx, gXv1, gXw1, gXx1, gXy1, gXz1, gX02, gX12, gX22, gX32, gX42, gX52, gX62, gX72, Dn.setLast, Dn.getLast, evalO, mapO, Dn.get, putE, keepE, TV.one, TV.isAgg, Dn.part, hlen, e1, e2, hp, hq0, hr0, hq1, hr1, hq2, hr2, hx, cl, c0, c1']

end Go.Proofs.Try.Dn

/-
  tame makes a board: its round.
-/

namespace Go.Proofs.Try.Dn
open Go.Dn

theorem l18_1_all {pg : Pg} {H : Heap} {N many : Int} {T out : TV} {i : Nat} {x : Line} {l : List Line} (hN : 1 ≤ N ∧ N ≤ 16) (hT : ∀ H, elL.View H T l) (hi : l[i]? = some x) :
    ∃ y : Line, den pg l18_1 [(0, .i .i64 N), (1, T), (3, .i .i64 many), (10, out), (11, .i .i64 (i : Int)), (12, .ref H.length 0), (13, .i .i64 0)] (H ++ [.cells [.i .i64 0, .i .i64 0, .i .i64 0] true]) =
      some ⟨.exit 2, [(0, .i .i64 N), (1, T), (3, .i .i64 many), (10, out), (11, .i .i64 (i : Int)), (12, .ref H.length 0), (13, .i .i64 3), (36, .b false)], H ++ [cl y]⟩ := by
  obtain ⟨y0, h0⟩ := l18_1_round (pg := pg) (H := H) (many := many) (out := out) (k := 0) (cs := [.i .i64 0, .i .i64 0, .i .i64 0]) hN hT hi (by omega) rfl
  obtain ⟨y1, h1⟩ := l18_1_round (pg := pg) (H := H) (many := many) (out := out) (k := 1) (cs := [.i .i64 y0, .i .i64 0, .i .i64 0]) hN hT hi (by omega) rfl
  obtain ⟨y2, h2⟩ := l18_1_round (pg := pg) (H := H) (many := many) (out := out) (k := 2) (cs := [.i .i64 y0, .i .i64 y1, .i .i64 0]) hN hT hi (by omega) rfl
  refine ⟨(y0, y1, y2), h0.trans (Eq.trans ?_ (h1.trans (Eq.trans ?_ (h2.trans ?_))))⟩
  · simp [put2]
  · simp [put2]
  · rw [l18_1, den_loop]
    simp [b18_0, gX0, gX1, gX2, gX3, gX4, gX5, gX6, gX7, gX8, gX9, gXa, gXb, gXc, gXd, gXe, gXf, gXg, gXh, gXi, gXj, gXk, gXl, gXm, gXn, gXo, gXp, gXq, gXr, gXs, gXt, gXu, gXv, gXw, gXx, k_mv, gXy, gXz, gX01, gX11, gX21, gX31, gX41, gX51, gX61, gX71, gX81, gX91, gXa1, gXb1, gXc1, gXd1, gXe1, gXf1, gXg1, gXh1, gXi1, gXj1, gXk1, gXl1, gXm1, gXn1, gXo1, gXp1, gXq1, gXr1, gXs1, gXt1, gXu1, k_mn, k_mx, gXv1, gXw1, gXx1, gXy1, gXz1, gX02, gX12, gX22, gX32, gX42, gX52, gX62, gX72, Dn.setLast, Dn.getLast, evalO, mapO, Dn.get, putE, keepE, TV.one, TV.isAgg, Dn.part, put2, cl]

theorem l18_3_stop {pg : Pg} {H : Heap} {N many : Int} {T out i : TV} {xid a : Nat} {m : List Line} (ho : elL.View H out m) (ha : ¬ a < m.length) :
    den pg l18_3 [(0, .i .i64 N), (1, T), (3, .i .i64 many), (10, out), (11, i), (12, .ref xid 0), (14, .i .i64 a)] H = some ⟨.exit 4, [(0, .i .i64 N), (1, T), (3, .i .i64 many), (10, out), (11, i), (12, .ref xid 0), (14, .i .i64 a), (117, .b false)], H⟩ := by
  have e1 : ¬ ((a : Int) < (m.length : Int)) := by omega
  have hlen := ho.lenK
  rw [l18_3, den_loop]
  simp [b18_2, gX0, gX1, gX2, gX3, gX4, gX5, gX6, gX7, gX8, gX9, gXa, gXb, gXc, gXd, gXe, gXf, gXg, gXh, gXi, gXj, gXk, gXl, gXm, gXn, gXo, gXp, gXq, gXr, gXs, gXt, gXu, gXv, gXw, gXx, k_mv, gXy, gXz, gX01, gX11, gX21, gX31, gX41, gX51, gX61, gX71, gX81, gX91, gXa1, gXb1, gXc1, gXd1, gXe1, gXf1, gXg1, gXh1, gXi1, gXj1, gXk1, gXl1, gXm1, gXn1, gXo1, gXp1, gXq1, gXr1, gXs1, gXt1, gXu1, k_mn, k_mx, gXv1, gXw1, gXx1, gXy1, gXz1, gX02, gX12, gX22, gX32, gX42, gX52, gX62, gX72, Dn.setLast, Dn.getLast, evalO, mapO, Dn.get, putE, keepE, TV.one, TV.isAgg, Dn.part, hlen, e1]

theorem l18_3_all {pg : Pg} {H : Heap} {N many : Int} {T out i : TV} {xid : Nat} {x : Line} {m : List Line} (ho : elL.View H out m) (hx : H[xid]? = some (cl x)) (hm : m.length < 1000) : ∀ (k a : Nat), a + k = m.length →
    ∃ a' : Nat, a' ≤ m.length ∧ den pg l18_3 [(0, .i .i64 N), (1, T), (3, .i .i64 many), (10, out), (11, i), (12, .ref xid 0), (14, .i .i64 a)] H = some ⟨.exit 4, [(0, .i .i64 N), (1, T), (3, .i .i64 many), (10, out), (11, i), (12, .ref xid 0), (14, .i .i64 a'), (117, .b false)], H⟩
  | 0, a, h => ⟨a, by omega, l18_3_stop ho (by omega)⟩
  | k + 1, a, h => by
    have ha : a < m.length := by omega
    have hr := l18_3_round (pg := pg) (N := N) (many := many) (T := T) (i := i) ho hx (List.getElem?_eq_getElem ha) (by omega)
    by_cases c : lt3 m[a] x = true
    · rw [if_pos c] at hr
      obtain ⟨a', h1, h2⟩ := l18_3_all (N := N) (many := many) (T := T) (i := i) ho hx hm k (a + 1) (by omega)
      exact ⟨a', h1, hr.trans h2⟩
    · rw [if_neg c] at hr
      exact ⟨a, by omega, hr⟩

theorem appL {H : Heap} {t x : TV} {l k : List Line} (h : elL.Own H t l) (hx : elL.View H x k) (hb : l.length + k.length ≤ 1000000) :
    ∃ t' H', appRun 3 true 24 t x H = some (t', H') ∧ elL.Own H' t' (l ++ k) ∧ H.length ≤ H'.length ∧ (∀ j, j < H.length → t.idOf ≠ some j → H'[j]? = H[j]?) ∧ (t' = t ∨ ∀ id, t'.idOf = some id → H.length ≤ id) := El.app (bytes := 24) h hx (by omega)

theorem k_bslL {pg : Pg} {R : Rec} (x : Line) (H : Heap) : dkc pg R (.bsl false [.i .i64 0, .i .i64 0, .i .i64 0] true 1 [0]) [lineTV x] H = some (.sl H.length 0 3 true 1 (some 1), H ++ [.cells [.i .i64 x.1, .i .i64 x.2.1, .i .i64 x.2.2] false]) := by
  simp [dkc, dk, fillP, repl, put2, TV.cells, TV.one, lineTV]

theorem insert {H : Heap} {out : TV} {m : List Line} {x : Line} {at_ : Nat} (ho : elL.Own H out m) (ha : at_ ≤ m.length) (hm : m.length ≤ 1000) :
    ∃ v1 v2 t1 H1 t2 H2 t3 H3, slcRun false true false 3 true out [.i .i64 (at_ : Int)] = some v1 ∧ appRun 3 true 24 .nilsl v1 H = some (t1, H1) ∧
      (∀ j, j < H.length → H1[j]? = H[j]?) ∧
      appRun 3 true 24 t1 (.sl H1.length 0 3 true 1 (some 1)) (H1 ++ [.cells [.i .i64 x.1, .i .i64 x.2.1, .i .i64 x.2.2] false]) = some (t2, H2) ∧
      slcRun true false false 3 true out [.i .i64 (at_ : Int)] = some v2 ∧ appRun 3 true 24 t2 v2 H2 = some (t3, H3) ∧ elL.Own H3 t3 (m.take at_ ++ [x] ++ m.drop at_) ∧ elL.Own H3 out m := by
  have hb1 : bounds3 false true false m.length [.i .i64 (at_ : Int)] = some (0, at_, none) := by simp [bounds3, bound]
  have hb2 : bounds3 true false false m.length [.i .i64 (at_ : Int)] = some (at_, m.length, none) := by simp [bounds3, bound, ha]
  obtain ⟨v1, s1, w1, _⟩ := ho.view.slc (Nat.zero_le _) ha hb1
  obtain ⟨v2, s2, w2, i2⟩ := ho.view.slc ha (Nat.le_refl _) hb2
  simp only [List.drop_zero] at w1
  simp only [List.take_length] at w2
  obtain ⟨t1, H1, a1, o1, l1, f1, g1⟩ := appL (H := H) (t := .nilsl) (l := []) (.inl ⟨rfl, rfl⟩) w1 (by simp; omega)
  have hf1 : ∀ j, j < H.length → H1[j]? = H[j]? := fun j hj => f1 j hj (by simp [TV.idOf])
  have hx : elL.View (H1 ++ [.cells [.i .i64 x.1, .i .i64 x.2.1, .i .i64 x.2.2] false]) (.sl H1.length 0 3 true 1 (some 1)) [x] :=
    .inr (.inr ⟨H1.length, 0, some 1, _, false, rfl, by simp, getLast _ _, by simp [elL], by simp [elL, El.flat]⟩)
  have o1' : elL.Own (H1 ++ [.cells [.i .i64 x.1, .i .i64 x.2.1, .i .i64 x.2.2] false]) t1 (m.take at_) := by
    refine o1.mono fun id h => ?_
    rw [List.getElem?_append_left (o1.lt id h)]
  obtain ⟨t2, H2, a2, o2, l2, f2, g2⟩ := appL o1' hx (by simp; omega)
  have hold : ∀ t : TV, ∀ l, elL.View H t l → ∀ id, t.idOf = some id → H2[id]? = H[id]? := by
    intro t l h id hid
    have hlt := h.lt id hid
    rw [f2 id (by simp; omega) ?_, List.getElem?_append_left (by omega), hf1 id hlt]
    rcases g1 with rfl | g1
    · simp [TV.idOf]
    · intro he
      have := g1 id he
      omega
  have w2' : elL.View H2 v2 (m.drop at_) := w2.mono (hold _ _ w2)
  obtain ⟨t3, H3, a3, o3, l3, f3, g3⟩ := appL o2 w2' (by simp; omega)
  refine ⟨v1, v2, t1, H1, t2, H2, t3, H3, s1, a1, hf1, a2, s2, a3, o3, ?_⟩
  refine ho.mono fun id hid => ?_
  have hlt := ho.lt id hid
  have hH2 : id < H2.length := by have := l2; simp at this; omega
  rw [f3 id hH2 ?_, hold _ _ ho.view id hid]
  rcases g2 with rfl | g2
  · rcases g1 with rfl | g1
    · simp [TV.idOf]
    · intro he
      have := g1 id he
      omega
  · intro he
    have := g2 id he
    simp at this
    omega

end Go.Proofs.Try.Dn

/-
  tame makes a board.
-/

namespace Go.Proofs.Try.Dn
open Go.Dn

theorem call46o {pg : Pg} (hF : Free pg) (n : Int) {t : TV} {l : List Line} {H : Heap} (h : elL.Own H t l) : callRun pg (den pg) (.pu []) [.fn 46 [] [], .i .i64 n, t] H = some (.i .i64 (chk n l), H) :=
  Fn.call (fn46 hF n true l) (args := [.i .i64 n, t]) (by simp [snapArgs, sn_i, sn_b, gX92, gXa2, gXb2, gXc2, gXd2, gXe2, gXf2, gXg2, gXh2, gXi2, gXj2, gXk2, mapO, elems, h.snap elL_flat, LT_lt])

def turned (y : Line) : Line := if y.2.2 < y.1 then (y.2.2, y.2.1, y.1) else y

theorem l18_5_round {pg : Pg} (hF : Free pg) {H : Heap} {N : Int} {many : Nat} {T out : TV} {i : Nat} {x : Line} {l m : List Line} (hN : 1 ≤ N ∧ N ≤ 16) (hT : ∀ H, elL.View H T l) (hl : l.length ≤ 9223372036854775807) (hi : l[i]? = some x)
    (ho : elL.Own H out m) (hm : m.length < many) (hmany : many ≤ 40) (hc : chk N m = 0) :
    ∃ out' m' H', den pg l18_5 [(0, .i .i64 N), (1, T), (3, .i .i64 many), (10, out), (11, .i .i64 i)] H = den pg l18_5 [(0, .i .i64 N), (1, T), (3, .i .i64 many), (10, out'), (11, .i .i64 ((i + 1 : Nat) : Int))] H' ∧ elL.Own H' out' m' ∧ m'.length ≤ many ∧ chk N m' = 0 := by
  have hil := (List.getElem?_eq_some_iff.1 hi).1
  have e1 : ((i : Int) < (l.length : Int)) := by omega
  have e2 : wrapR .i64 ((i : Int) + 1) = .i .i64 ((i : Int) + 1) := gX82 (by omega)
  have e3 : ((m.length : Int) < (many : Int)) := by omega
  have hlT := fun H' => (hT H).lenK H'
  have hlo := fun H' => ho.view.lenK H'
  obtain ⟨y, hy⟩ := l18_1_all (pg := pg) (H := H) (many := many) (out := out) hN hT hi
  have hoX : ∀ z, elL.Own (H ++ [cl z]) out m := fun z => ho.mono fun id h => by rw [List.getElem?_append_left (ho.lt id h)]
  obtain ⟨a, ha, hat⟩ := l18_3_all (pg := pg) (N := N) (many := many) (T := T) (i := .i .i64 i) (hoX (turned y)).view (getLast H (cl (turned y))) (by omega) m.length 0 (by omega)
  obtain ⟨v1, v2, t1, H1, t2, H2, t3, H3, s1, a1, hf1, a2, s2, a3, o3, oo⟩ := insert (x := turned y) (hoX (turned y)) ha (by omega)
  have hcell : H1[H.length]? = some (cl (turned y)) := by rw [hf1 _ (by simp), getLast]
  have h46 := call46o hF N o3
  have hlen3 : (m.take a ++ [turned y] ++ m.drop a).length ≤ many := by simp; omega
  generalize m.take a ++ [turned y] ++ m.drop a = m3 at o3 h46 hlen3
  have hbs := fun H => k_bslL (pg := pg) (R := den pg) (turned y) H
  by_cases hsw : y.2.2 < y.1
  · have hty : turned y = (y.2.2, y.2.1, y.1) := by simp [turned, hsw]
    simp only [hty, cl, lineTV] at hy hat a1 a2 a3 hcell hbs
    simp only [Int.natCast_zero] at hat
    by_cases hck : chk N m3 = 0
    · refine ⟨t3, m3, H3, ?_, o3, hlen3, hck⟩
      rw [l18_5, den_loop]
      simp [l18_5, b18_4, gX0, gX1, gX2, gX3, gX4, gX5, gX6, gX7, gX8, gX9, gXa, gXb, gXc, gXd, gXe, gXf, gXg, gXh, gXi, gXj, gXk, gXl, gXm, gXn, gXo, gXp, gXq, gXr, gXs, gXt, gXu, gXv, gXw, gXx, k_mv, gXy, gXz, gX01, gX11, gX21, gX31, gX41, gX51, gX61, gX71, gX81, gX91, gXa1, gXb1, gXc1, gXd1, gXe1, gXf1, gXg1, gXh1, gXi1, gXj1, gXk1, gXl1, gXm1, gXn1, gXo1, gXp1, gXq1, gXr1, gXs1, gXt1, gXu1, k_mn, k_mx, gXv1, gXw1, gXx1, gXy1, gXz1, gX02, gX12, gX22, gX32, gX42, gX52, gX62, gX72, Dn.setLast, Dn.getLast, evalO, mapO, Dn.get, putE, keepE, TV.one, TV.isAgg, Dn.part, hlT, e1, e2, hlo, e3, go_den l18_1, go_den l18_3, hy, hsw, put2, fillP, hat, s1, a1, a2, s2, a3, hcell, hbs, h46, hck, TV.cells]
    · refine ⟨out, m, H3, ?_, oo, by omega, hc⟩
      rw [l18_5, den_loop]
      simp [l18_5, b18_4, gX0, gX1, gX2, gX3, gX4, gX5, gX6, gX7, gX8, gX9, gXa, gXb, gXc, gXd, gXe, gXf, gXg, gXh, gXi, gXj, gXk, gXl, gXm, gXn, gXo, gXp, gXq, gXr, gXs, gXt, gXu, gXv, gXw, gXx, k_mv, gXy, gXz, gX01, gX11, gX21, gX31, gX41, gX51, gX61, gX71, gX81, gX91, gXa1, gXb1, gXc1, gXd1, gXe1, gXf1, gXg1, gXh1, gXi1, gXj1, gXk1, gXl1, gXm1, gXn1, gXo1, gXp1, gXq1, gXr1, gXs1, gXt1, gXu1, k_mn, k_mx, gXv1, gXw1, gXx1, gXy1, gXz1, gX02, gX12, gX22, gX32, gX42, gX52, gX62, gX72, Dn.setLast, Dn.getLast, evalO, mapO, Dn.get, putE, keepE, TV.one, TV.isAgg, Dn.part, hlT, e1, e2, hlo, e3, go_den l18_1, go_den l18_3, hy, hsw, put2, fillP, hat, s1, a1, a2, s2, a3, hcell, hbs, h46, hck, TV.cells]
  · have hty : turned y = y := by simp [turned, hsw]
    simp only [hty, cl, lineTV] at hy hat a1 a2 a3 hcell hbs
    simp only [Int.natCast_zero] at hat
    by_cases hck : chk N m3 = 0
    · refine ⟨t3, m3, H3, ?_, o3, hlen3, hck⟩
      rw [l18_5, den_loop]
      simp [l18_5, b18_4, gX0, gX1, gX2, gX3, gX4, gX5, gX6, gX7, gX8, gX9, gXa, gXb, gXc, gXd, gXe, gXf, gXg, gXh, gXi, gXj, gXk, gXl, gXm, gXn, gXo, gXp, gXq, gXr, gXs, gXt, gXu, gXv, gXw, gXx, k_mv, gXy, gXz, gX01, gX11, gX21, gX31, gX41, gX51, gX61, gX71, gX81, gX91, gXa1, gXb1, gXc1, gXd1, gXe1, gXf1, gXg1, gXh1, gXi1, gXj1, gXk1, gXl1, gXm1, gXn1, gXo1, gXp1, gXq1, gXr1, gXs1, gXt1, gXu1, k_mn, k_mx, gXv1, gXw1, gXx1, gXy1, gXz1, gX02, gX12, gX22, gX32, gX42, gX52, gX62, gX72, Dn.setLast, Dn.getLast, evalO, mapO, Dn.get, putE, keepE, TV.one, TV.isAgg, Dn.part, hlT, e1, e2, hlo, e3, go_den l18_1, go_den l18_3, hy, hsw, put2, fillP, hat, s1, a1, a2, s2, a3, hcell, hbs, h46, hck, TV.cells]
    · refine ⟨out, m, H3, ?_, oo, by omega, hc⟩
      rw [l18_5, den_loop]
      simp [l18_5, b18_4, gX0, gX1, gX2, gX3, gX4, gX5, gX6, gX7, gX8, gX9, gXa, gXb, gXc, gXd, gXe, gXf, gXg, gXh, gXi, gXj, gXk, gXl, gXm, gXn, gXo, gXp, gXq, gXr, gXs, gXt, gXu, gXv, gXw, gXx, k_mv, gXy, gXz, gX01, gX11, gX21, gX31, gX41, gX51, gX61, gX71, gX81, gX91, gXa1, gXb1, gXc1, gXd1, gXe1, gXf1, gXg1, gXh1, gXi1, gXj1, gXk1, gXl1, gXm1, gXn1, gXo1, gXp1, gXq1, gXr1, gXs1, gXt1, gXu1, k_mn, k_mx, gXv1, gXw1, gXx1, gXy1, gXz1, gX02, gX12, gX22, gX32, gX42, gX52, gX62, gX72, Dn.setLast, Dn.getLast, evalO, mapO, Dn.get, putE, keepE, TV.one, TV.isAgg, Dn.part, hlT, e1, e2, hlo, e3, go_den l18_1, go_den l18_3, hy, hsw, put2, fillP, hat, s1, a1, a2, s2, a3, hcell, hbs, h46, hck, TV.cells]

end Go.Proofs.Try.Dn

/-
  tame makes a board: what it answers.
-/

namespace Go.Proofs.Try.Dn
open Go.Dn

theorem l18_5_all {pg : Pg} (hF : Free pg) {N : Int} {many : Nat} {T : TV} {l : List Line} (hN : 1 ≤ N ∧ N ≤ 16) (hT : ∀ H, elL.View H T l) (hl : l.length ≤ 9223372036854775807) (hmany : many ≤ 40) :
    ∀ (k i : Nat) (H : Heap) (out : TV) (m : List Line), i + k = l.length → elL.Own H out m → m.length ≤ many → chk N m = 0 →
    ∃ out' m' H' e, den pg l18_5 [(0, .i .i64 N), (1, T), (3, .i .i64 many), (10, out), (11, .i .i64 i)] H = some ⟨.exit 0, e, H'⟩ ∧ get e 0 = some (.i .i64 N) ∧ get e 10 = some out' ∧ elL.Own H' out' m' ∧ m'.length ≤ many ∧ chk N m' = 0 := by
  have hstop : ∀ (i : Nat) (H : Heap) (out : TV) (m : List Line), elL.Own H out m → (¬ i < l.length ∨ ¬ m.length < many) →
      ∃ e, den pg l18_5 [(0, .i .i64 N), (1, T), (3, .i .i64 many), (10, out), (11, .i .i64 i)] H = some ⟨.exit 0, e, H⟩ ∧ get e 0 = some (.i .i64 N) ∧ get e 10 = some out := by
    intro i H out m ho h
    have hlT := fun H' => (hT H).lenK H'
    have hlo := fun H' => ho.view.lenK H'
    refine ⟨[(0, .i .i64 N), (1, T), (3, .i .i64 many), (10, out), (11, .i .i64 i), (32, .b false)], ?_, rfl, rfl⟩
    by_cases h1 : i < l.length
    · have e1 : ((i : Int) < (l.length : Int)) := by omega
      have e2 : ¬ ((m.length : Int) < (many : Int)) := by omega
      rw [l18_5, den_loop]
      simp [b18_4, gX0, gX1, gX2, gX3, gX4, gX5, gX6, gX7, gX8, gX9, gXa, gXb, gXc, gXd, gXe, gXf, gXg, gXh, gXi, gXj, gXk, gXl, gXm, gXn, gXo, gXp, gXq, gXr, gXs, gXt, gXu, gXv, gXw, gXx, k_mv, gXy, gXz, gX01, gX11, gX21, gX31, gX41, gX51, gX61, gX71, gX81, gX91, gXa1, gXb1, gXc1, gXd1, gXe1, gXf1, gXg1, gXh1, gXi1, gXj1, gXk1, gXl1, gXm1, gXn1, gXo1, gXp1, gXq1, gXr1, gXs1, gXt1, gXu1, k_mn, k_mx, gXv1, gXw1, gXx1, gXy1, gXz1, gX02, gX12, gX22, gX32, gX42, gX52, gX62, gX72, Dn.setLast, Dn.getLast, evalO, mapO, Dn.get, putE, keepE, TV.one, TV.isAgg, Dn.part, hlT, hlo, e1, e2]
    · have e1 : ¬ ((i : Int) < (l.length : Int)) := by omega
      rw [l18_5, den_loop]
      simp [b18_4, gX0, gX1, gX2, gX3, gX4, gX5, gX6, gX7, gX8, gX9, gXa, gXb, gXc, gXd, gXe, gXf, gXg, gXh, gXi, gXj, gXk, gXl, gXm, gXn, gXo, gXp, gXq, gXr, gXs, gXt, gXu, gXv, gXw, gXx, k_mv, gXy, gXz, gX01, gX11, gX21, gX31, gX41, gX51, gX61, gX71, gX81, gX91, gXa1, gXb1, gXc1, gXd1, gXe1, gXf1, gXg1, gXh1, gXi1, gXj1, gXk1, gXl1, gXm1, gXn1, gXo1, gXp1, gXq1, gXr1, gXs1, gXt1, gXu1, k_mn, k_mx, gXv1, gXw1, gXx1, gXy1, gXz1, gX02, gX12, gX22, gX32, gX42, gX52, gX62, gX72, Dn.setLast, Dn.getLast, evalO, mapO, Dn.get, putE, keepE, TV.one, TV.isAgg, Dn.part, hlT, hlo, e1]
  intro k
  induction k with
  | zero =>
    intro i H out m h ho hm hc
    obtain ⟨e, h1, h2, h3⟩ := hstop i H out m ho (.inl (by omega))
    exact ⟨out, m, H, e, h1, h2, h3, ho, hm, hc⟩
  | succ k ih =>
    intro i H out m h ho hm hc
    by_cases hlt : m.length < many
    · have hi : i < l.length := by omega
      obtain ⟨out1, m1, H1, h1, o1, hm1, hc1⟩ := l18_5_round hF hN hT hl (List.getElem?_eq_getElem hi) ho hlt hmany hc
      obtain ⟨out', m', H', e, h2, rest⟩ := ih (i + 1) H1 out1 m1 (by omega) o1 hm1 hc1
      exact ⟨out', m', H', e, h1.trans h2, rest⟩
    · obtain ⟨e, h1, h2, h3⟩ := hstop i H out m ho (.inr hlt)
      exact ⟨out, m, H, e, h1, h2, h3, ho, hm, hc⟩

def tameN (n most : Int) : Int := 1 + IntKind.wrap .i64 (Int.tmod (IntKind.wrap .u64 n) (IntKind.wrap .u64 most))

theorem tameN_range {n most : Int} (h : 1 ≤ most ∧ most ≤ 16) : 1 ≤ tameN n most ∧ tameN n most ≤ most := by
  have h1 : IntKind.wrap .u64 most = most := by simp [IntKind.wrap, IntKind.signed, IntKind.bits]; omega
  have h2 : 0 ≤ IntKind.wrap .u64 n := by simp [IntKind.wrap, IntKind.signed, IntKind.bits]; omega
  have h3 : Int.tmod (IntKind.wrap .u64 n) most = IntKind.wrap .u64 n % most := Int.tmod_eq_emod_of_nonneg h2
  have h4 := Int.emod_nonneg (IntKind.wrap .u64 n) (by omega : most ≠ 0)
  have h5 := Int.emod_lt_of_pos (IntKind.wrap .u64 n) (by omega : 0 < most)
  have h6 : IntKind.wrap .i64 (IntKind.wrap .u64 n % most) = IntKind.wrap .u64 n % most := by
    generalize IntKind.wrap .u64 n % most = z at h4 h5
    simp [IntKind.wrap, IntKind.signed, IntKind.bits]; omega
  unfold tameN
  rw [h1, h3, h6]
  omega

theorem fn18 {pg : Pg} (hF : Free pg) {n most : Int} {many : Nat} {T : TV} {l : List Line} (hmost : 1 ≤ most ∧ most ≤ 16) (hT : ∀ H, elL.View H T l) (hl : l.length ≤ 9223372036854775807) (hmany : many ≤ 40) :
    ∃ N m, 1 ≤ N ∧ N ≤ most ∧ m.length ≤ many ∧ chk N m = 0 ∧ Fn pg 18 [.i .i64 n, T, .i .i64 most, .i .i64 many] (.tup [.i .i64 N, LT false m]) := by
  have hr := tameN_range (n := n) hmost
  have hd : pg.F 18 = some d18 := by rw [hF.F]; rfl
  have hchk0 : chk (tameN n most) [] = 0 := by
    have h1 : ¬ (tameN n most < 1 ∨ 16 < tameN n most) := by omega
    simp [chk, chkFrom, h1]
  obtain ⟨out', m', H', e, h1, h2, h3, o, hm', hc'⟩ := l18_5_all hF (N := tameN n most) (T := T) (by omega) hT hl hmany l.length 0 [] .nilsl [] (by omega) (.inl ⟨rfl, rfl⟩) (Nat.zero_le _) hchk0
  refine ⟨tameN n most, m', hr.1, hr.2, hm', hc', ?_⟩
  have e3 : ∀ v, wrapR .u64 v = .i .u64 (IntKind.wrap .u64 v) := fun _ => rfl
  have e6 : ∀ a b, wrapR .i64 (Int.tmod a b) = .i .i64 (IntKind.wrap .i64 (Int.tmod a b)) := fun _ _ => rfl
  have e4 : ¬ IntKind.wrap .u64 most = 0 := by simp [IntKind.wrap, IntKind.signed, IntKind.bits]; omega
  have e5 : wrapR .i64 (1 + IntKind.wrap .i64 (Int.tmod (IntKind.wrap .u64 n) (IntKind.wrap .u64 most))) = .i .i64 (tameN n most) := gX82 (by unfold tameN at hr; omega)
  refine .of_go (x := .ret) (e := [(8, .i .i64 (tameN n most)), (9, out')]) (H' := H') (hF.S _ _ (by decide)) hd rfl ?_ (.inl rfl) rfl ?_
  · simp only [Int.natCast_zero] at h1
    simp [d18, c18, zipE, gX0, gX1, gX2, gX3, gX4, gX5, gX6, gX7, gX8, gX9, gXa, gXb, gXc, gXd, gXe, gXf, gXg, gXh, gXi, gXj, gXk, gXl, gXm, gXn, gXo, gXp, gXq, gXr, gXs, gXt, gXu, gXv, gXw, gXx, k_mv, gXy, gXz, gX01, gX11, gX21, gX31, gX41, gX51, gX61, gX71, gX81, gX91, gXa1, gXb1, gXc1, gXd1, gXe1, gXf1, gXg1, gXh1, gXi1, gXj1, gXk1, gXl1, gXm1, gXn1, gXo1, gXp1, gXq1, gXr1, gXs1, gXt1, gXu1, k_mn, k_mx, gXv1, gXw1, gXx1, gXy1, gXz1, gX02, gX12, gX22, gX32, gX42, gX52, gX62, gX72, Dn.setLast, Dn.getLast, evalO, mapO, Dn.get, putE, keepE, TV.one, TV.isAgg, Dn.part, e3, e6, e4, e5, b_rem, go_den l18_5, h1, h2, h3]
  · simp [tupR, gXi2, mapO, gXa2, o.fin8 elL_flat, LT_lt]

theorem lines_view {t : TV} {l : List Line} (h : t = .nilsl ∧ l = [] ∨ ∃ b, t = .bs b 3 (l.map lineTV)) (H : Heap) : elL.View H t l := by
  rcases h with ⟨rfl, rfl⟩ | ⟨b, rfl⟩
  · exact .inl ⟨rfl, rfl⟩
  · exact .inr (.inl ⟨b, rfl⟩)

theorem call18 {pg : Pg} (hF : Free pg) {n most : Int} {many : Nat} {t : TV} {l : List Line} (hmost : 1 ≤ most ∧ most ≤ 16) (ht : IsLines t l) (hmany : many ≤ 40) :
    ∃ N m, 1 ≤ N ∧ N ≤ most ∧ m.length ≤ many ∧ chk N m = 0 ∧ ∀ H, callRun pg (den pg) (.pu []) [.fn 18 [] [], .i .i64 n, t, .i .i64 most, .i .i64 (many : Int)] H = some (.tup [.i .i64 N, LT false m], H) := by
  obtain ⟨ht0, hlen, _⟩ := ht
  have hl : l.length ≤ 9223372036854775807 := by have : maxLen ≤ 9223372036854775807 := by decide
                                                 omega
  rcases ht0 with ⟨rfl, rfl⟩ | rfl
  · obtain ⟨N, m, h1, h2, h3, h4, h5⟩ := fn18 hF (n := n) (T := .nilsl) (l := []) hmost (lines_view (.inl ⟨rfl, rfl⟩)) hl hmany
    exact ⟨N, m, h1, h2, h3, h4, fun H => Fn.call h5 (args := [.i .i64 n, .nilsl, .i .i64 most, .i .i64 many]) (by simp [snapArgs, sn_i, sn_b, gX92, gXa2, gXb2, gXc2, gXd2, gXe2, gXf2, gXg2, gXh2, gXi2, gXj2, gXk2, mapO, elems])⟩
  · obtain ⟨N, m, h1, h2, h3, h4, h5⟩ := fn18 hF (n := n) (T := .bs true 3 (l.map lineTV)) (l := l) hmost (lines_view (.inr ⟨true, rfl⟩)) hl hmany
    exact ⟨N, m, h1, h2, h3, h4, fun H => Fn.call h5 (args := [.i .i64 n, linesTV l, .i .i64 most, .i .i64 many]) (by simp [snapArgs, sn_i, linesTV, snap_bs, mapO_lines .borrow H 6 l])⟩

end Go.Proofs.Try.Dn

/-
  'open' on a board: positions out of range.
-/

namespace Go.Proofs.Try.Dn
open Go.Dn

theorem sh_fn {pg : Pg} {R : Rec} (f : Nat) (fs cs args : List TV) (H : Heap) : callRun pg R .sh (.fn f fs cs :: args) H = bodyRun pg R f (fs ++ args ++ cs) H := rfl

theorem body_of {pg : Pg} {f : Nat} {xs : List TV} {d : DFun} {x : Ex} {e : Env} {H H' : Heap} {r : TV} (hd : pg.F f = some d) (hl : xs.length = d.np)
    (ho : go pg (den pg) [.c d.body] .normal (zipE xs 0) H = some ⟨x, e, H'⟩) (hx : x = .ret ∨ x = .normal) (hv : mapO (resRun e H') d.res = some [r]) : bodyRun pg (den pg) f xs H = some (r, H') := by
  refine bodyRun_of (vs := [r]) (o := ⟨x, e, H'⟩) hd hl (by rw [runC_go]; exact ho) ?_ hv
  intro id
  rcases hx with rfl | rfl <;> simp

def outOf (n v : Int) : Bool := decide (v < 0) || decide ((2 : Int) ^ n.toNat ≤ v)

theorem pow_le16 {n : Int} (h : 1 ≤ n ∧ n ≤ 16) : (2 : Int) ^ n.toNat ≤ 65536 ∧ 1 ≤ (2 : Int) ^ n.toNat := by
  have : ∀ k : Nat, k ≤ 16 → (2 : Int) ^ k ≤ 65536 ∧ 1 ≤ (2 : Int) ^ k := by decide
  exact this _ (by omega)

theorem b_shl {k : IntKind} {n : Int} (hn : 1 ≤ n ∧ n ≤ 16) : binI .shl (.i .i64 1) (.i k n) = some (.i .i64 ((2 : Int) ^ n.toNat)) := by
  have h0 : ¬ n < 0 := by omega
  have h1 : min n.toNat 64 = n.toNat := by omega
  have h2 := pow_le16 hn
  have h3 : wrapR .i64 ((2 : Int) ^ n.toNat) = .i .i64 ((2 : Int) ^ n.toNat) := gX82 (by omega)
  simp [binI, h0, h1, h3, IntKind.bits]

theorem u64_small {n : Int} (hn : 1 ≤ n ∧ n ≤ 16) : wrapR .u64 n = .i .u64 n := by
  unfold wrapR; simp [IntKind.wrap, IntKind.signed, IntKind.bits]; omega

theorem body71 {pg : Pg} (hF : Free pg) {n v : Int} (hn : 1 ≤ n ∧ n ≤ 16) {id : Nat} {H : Heap} (h : H[id]? = some (.cells [.i .i64 n] false)) : bodyRun pg (den pg) 71 [.i .i64 v, .ref id 0] H = some (.b (outOf n v), H) := by
  refine body_of (x := .ret) (e := [(3, .b (outOf n v))]) (d := d71) (by rw [hF.F]; rfl) rfl ?_ (.inl rfl) rfl
  by_cases h1 : v < 0
  · simp [d71, c71, zipE, gX0, gX1, gX2, gX3, gX4, gX5, gX6, gX7, gX8, gX9, gXa, gXb, gXc, gXd, gXe, gXf, gXg, gXh, gXi, gXj, gXk, gXl, gXm, gXn, gXo, gXp, gXq, gXr, gXs, gXt, gXu, gXv, gXw, gXx, k_mv, gXy, gXz, gX01, gX11, gX21, gX31, gX41, gX51, gX61, gX71, gX81, gX91, gXa1, gXb1, gXc1, gXd1, gXe1, gXf1, gXg1, gXh1, gXi1, gXj1, gXk1, gXl1, gXm1, gXn1, gXo1, gXp1, gXq1, gXr1, gXs1, gXt1, gXu1, k_mn, k_mx, gXv1, gXw1, gXx1, gXy1, gXz1, gX02, gX12, gX22, gX32, gX42, gX52, gX62, gX72, Dn.setLast, Dn.getLast, evalO, mapO, Dn.get, putE, keepE, TV.one, TV.isAgg, Dn.part, h1, outOf]
  · simp [d71, c71, zipE, gX0, gX1, gX2, gX3, gX4, gX5, gX6, gX7, gX8, gX9, gXa, gXb, gXc, gXd, gXe, gXf, gXg, gXh, gXi, gXj, gXk, gXl, gXm, gXn, gXo, gXp, gXq, gXr, gXs, gXt, gXu, gXv, gXw, gXx, k_mv, gXy, gXz, gX01, gX11, gX21, gX31, gX41, gX51, gX61, gX71, gX81, gX91, gXa1, gXb1, gXc1, gXd1, gXe1, gXf1, gXg1, gXh1, gXi1, gXj1, gXk1, gXl1, gXm1, gXn1, gXo1, gXp1, gXq1, gXr1, gXs1, gXt1, gXu1, k_mn, k_mx, gXv1, gXw1, gXx1, gXy1, gXz1, gX02, gX12, gX22, gX32, gX42, gX52, gX62, gX72, Dn.setLast, Dn.getLast, evalO, mapO, Dn.get, putE, keepE, TV.one, TV.isAgg, Dn.part, h1, outOf, h, u64_small hn, b_shl hn]

def Tells (pg : Pg) (f : TV) (H : Heap) (P : Int → Bool) : Prop := ∀ v, callRun pg (den pg) .sh [f, .i .i64 v] H = some (.b (P v), H)

theorem ixI {pg : Pg} {R : Rec} {H : Heap} {t : TV} {l : List Int} (h : elI.View H t l) {i : Nat} {x : Int} (hx : l[i]? = some x) : ∃ p, dkc pg R (.ixS 1 false) [t, .i .i64 (i : Int)] H = some (p, H) ∧ dkc pg R (.ld 1 false) [p] H = some (.i .i64 x, H) := by
  obtain ⟨p, h1, h2, _⟩ := h.ix (pg := pg) (R := R) hx .i64
  exact ⟨p, h1, h2.ld⟩

def firstIdx (P : Int → Bool) : List Int → Nat → Int
  | [], _ => -1
  | x :: l, i => if P x then (i : Int) else firstIdx P l (i + 1)

theorem firstIdx_any (P : Int → Bool) : ∀ (l : List Int) (i : Nat), decide (0 ≤ firstIdx P l i) = l.any P
  | [], i => rfl
  | x :: l, i => by
    simp only [firstIdx, List.any_cons]
    by_cases h : P x = true
    · simp [h]
    · simp [h, firstIdx_any P l]

theorem l74_all {pg : Pg} (hF : Free pg) {H : Heap} {s f : TV} {l : List Int} {P : Int → Bool} (hs : elI.View H s l) (hf : Tells pg f H P) (hl : l.length ≤ 9223372036854775807) : ∀ (k i : Nat), i + k = l.length →
    ∃ x e, den pg l74_1 [(0, s), (1, f), (7, .i .i64 (l.length : Int)), (8, .i .i64 (i : Int))] H = some ⟨x, e, H⟩ ∧ (x = .exit 0 ∧ firstIdx P (l.drop i) i = -1 ∨ x = .ret ∧ e = [(4, .i .i64 (firstIdx P (l.drop i) i))])
  | 0, i, h => by
    have e1 : ¬ ((i : Int) < (l.length : Int)) := by omega
    refine ⟨.exit 0, [(0, s), (1, f), (7, .i .i64 (l.length : Int)), (8, .i .i64 (i : Int)), (9, .b false)], ?_, .inl ⟨rfl, ?_⟩⟩
    · rw [l74_1, den_loop]
      simp [b74_0, gX0, gX1, gX2, gX3, gX4, gX5, gX6, gX7, gX8, gX9, gXa, gXb, gXc, gXd, gXe, gXf, gXg, gXh, gXi, gXj, gXk, gXl, gXm, gXn, gXo, gXp, gXq, gXr, gXs, gXt, gXu, gXv, gXw, gXx, k_mv, gXy, gXz, gX01, gX11, gX21, gX31, gX41, gX51, gX61, gX71, gX81, gX91, gXa1, gXb1, gXc1, gXd1, gXe1, gXf1, gXg1, gXh1, gXi1, gXj1, gXk1, gXl1, gXm1, gXn1, gXo1, gXp1, gXq1, gXr1, gXs1, gXt1, gXu1, k_mn, k_mx, gXv1, gXw1, gXx1, gXy1, gXz1, gX02, gX12, gX22, gX32, gX42, gX52, gX62, gX72, Dn.setLast, Dn.getLast, evalO, mapO, Dn.get, putE, keepE, TV.one, TV.isAgg, Dn.part, e1]
    · rw [List.drop_eq_nil_of_le (by omega)]; rfl
  | k + 1, i, h => by
    have hi : i < l.length := by omega
    have e1 : ((i : Int) < (l.length : Int)) := by omega
    have e2 : wrapR .i64 ((i : Int) + 1) = .i .i64 ((i : Int) + 1) := gX82 (by omega)
    obtain ⟨p, hp, hv⟩ := ixI (pg := pg) (R := den pg) hs (List.getElem?_eq_getElem hi)
    have hd : l.drop i = l[i] :: l.drop (i + 1) := List.drop_eq_getElem_cons hi
    rw [hd]
    by_cases hP : P l[i] = true
    · refine ⟨.ret, [(4, .i .i64 (i : Int))], ?_, .inr ⟨rfl, by simp [firstIdx, hP]⟩⟩
      have hc := hf l[i]
      rw [hP] at hc
      rw [l74_1, den_loop]
      simp [b74_0, gX0, gX1, gX2, gX3, gX4, gX5, gX6, gX7, gX8, gX9, gXa, gXb, gXc, gXd, gXe, gXf, gXg, gXh, gXi, gXj, gXk, gXl, gXm, gXn, gXo, gXp, gXq, gXr, gXs, gXt, gXu, gXv, gXw, gXx, k_mv, gXy, gXz, gX01, gX11, gX21, gX31, gX41, gX51, gX61, gX71, gX81, gX91, gXa1, gXb1, gXc1, gXd1, gXe1, gXf1, gXg1, gXh1, gXi1, gXj1, gXk1, gXl1, gXm1, gXn1, gXo1, gXp1, gXq1, gXr1, gXs1, gXt1, gXu1, k_mn, k_mx, gXv1, gXw1, gXx1, gXy1, gXz1, gX02, gX12, gX22, gX32, gX42, gX52, gX62, gX72, Dn.setLast, Dn.getLast, evalO, mapO, Dn.get, putE, keepE, TV.one, TV.isAgg, Dn.part, e1, hp, hv, hc]
    · have hP' : P l[i] = false := by simpa using hP
      have hc := hf l[i]
      rw [hP'] at hc
      obtain ⟨x, e, h1, h2⟩ := l74_all hF hs hf hl k (i + 1) (by omega)
      refine ⟨x, e, Eq.trans ?_ h1, by simpa [firstIdx, hP'] using h2⟩
      rw [l74_1, den_loop]
      simp [l74_1, b74_0, gX0, gX1, gX2, gX3, gX4, gX5, gX6, gX7, gX8, gX9, gXa, gXb, gXc, gXd, gXe, gXf, gXg, gXh, gXi, gXj, gXk, gXl, gXm, gXn, gXo, gXp, gXq, gXr, gXs, gXt, gXu, gXv, gXw, gXx, k_mv, gXy, gXz, gX01, gX11, gX21, gX31, gX41, gX51, gX61, gX71, gX81, gX91, gXa1, gXb1, gXc1, gXd1, gXe1, gXf1, gXg1, gXh1, gXi1, gXj1, gXk1, gXl1, gXm1, gXn1, gXo1, gXp1, gXq1, gXr1, gXs1, gXt1, gXu1, k_mn, k_mx, gXv1, gXw1, gXx1, gXy1, gXz1, gX02, gX12, gX22, gX32, gX42, gX52, gX62, gX72, Dn.setLast, Dn.getLast, evalO, mapO, Dn.get, putE, keepE, TV.one, TV.isAgg, Dn.part, e1, e2, hp, hv, hc]

theorem body74 {pg : Pg} (hF : Free pg) {H : Heap} {s f : TV} {l : List Int} {P : Int → Bool} (hs : elI.View H s l) (hf : Tells pg f H P) (hl : l.length ≤ 9223372036854775807) : bodyRun pg (den pg) 74 [s, f] H = some (.i .i64 (firstIdx P l 0), H) := by
  refine body_of (x := .ret) (e := [(4, .i .i64 (firstIdx P l 0))]) (d := d74) (by rw [hF.F]; rfl) rfl ?_ (.inl rfl) rfl
  obtain ⟨x, e, h1, h2⟩ := l74_all hF hs hf hl l.length 0 (by omega)
  simp only [List.drop_zero, Int.natCast_zero] at h1 h2
  have hlen := hs.lenK
  rcases h2 with ⟨rfl, h2⟩ | ⟨rfl, rfl⟩
  · simp [d74, c74, zipE, gX0, gX1, gX2, gX3, gX4, gX5, gX6, gX7, gX8, gX9, gXa, gXb, gXc, gXd, gXe, gXf, gXg, gXh, gXi, gXj, gXk, gXl, gXm, gXn, gXo, gXp, gXq, gXr, gXs, gXt, gXu, gXv, gXw, gXx, k_mv, gXy, gXz, gX01, gX11, gX21, gX31, gX41, gX51, gX61, gX71, gX81, gX91, gXa1, gXb1, gXc1, gXd1, gXe1, gXf1, gXg1, gXh1, gXi1, gXj1, gXk1, gXl1, gXm1, gXn1, gXo1, gXp1, gXq1, gXr1, gXs1, gXt1, gXu1, k_mn, k_mx, gXv1, gXw1, gXx1, gXy1, gXz1, gX02, gX12, gX22, gX32, gX42, gX52, gX62, gX72, Dn.setLast, Dn.getLast, evalO, mapO, Dn.get, putE, keepE, TV.one, TV.isAgg, Dn.part, hlen, go_den l74_1, h1, h2]
  · simp [d74, c74, zipE, gX0, gX1, gX2, gX3, gX4, gX5, gX6, gX7, gX8, gX9, gXa, gXb, gXc, gXd, gXe, gXf, gXg, gXh, gXi, gXj, gXk, gXl, gXm, gXn, gXo, gXp, gXq, gXr, gXs, gXt, gXu, gXv, gXw, gXx, k_mv, gXy, gXz, gX01, gX11, gX21, gX31, gX41, gX51, gX61, gX71, gX81, gX91, gXa1, gXb1, gXc1, gXd1, gXe1, gXf1, gXg1, gXh1, gXi1, gXj1, gXk1, gXl1, gXm1, gXn1, gXo1, gXp1, gXq1, gXr1, gXs1, gXt1, gXu1, k_mn, k_mx, gXv1, gXw1, gXx1, gXy1, gXz1, gX02, gX12, gX22, gX32, gX42, gX52, gX62, gX72, Dn.setLast, Dn.getLast, evalO, mapO, Dn.get, putE, keepE, TV.one, TV.isAgg, Dn.part, hlen, go_den l74_1, h1]

theorem body55 {pg : Pg} (hF : Free pg) {H : Heap} {s f : TV} {l : List Int} {P : Int → Bool} (hs : elI.View H s l) (hf : Tells pg f H P) (hl : l.length ≤ 9223372036854775807) : bodyRun pg (den pg) 55 [s, f] H = some (.b (l.any P), H) := by
  refine body_of (x := .ret) (e := [(4, .b (l.any P))]) (d := d55) (by rw [hF.F]; rfl) rfl ?_ (.inl rfl) rfl
  have h := body74 hF hs hf hl
  simp [d55, c55, zipE, gX0, gX1, gX2, gX3, gX4, gX5, gX6, gX7, gX8, gX9, gXa, gXb, gXc, gXd, gXe, gXf, gXg, gXh, gXi, gXj, gXk, gXl, gXm, gXn, gXo, gXp, gXq, gXr, gXs, gXt, gXu, gXv, gXw, gXx, k_mv, gXy, gXz, gX01, gX11, gX21, gX31, gX41, gX51, gX61, gX71, gX81, gX91, gXa1, gXb1, gXc1, gXd1, gXe1, gXf1, gXg1, gXh1, gXi1, gXj1, gXk1, gXl1, gXm1, gXn1, gXo1, gXp1, gXq1, gXr1, gXs1, gXt1, gXu1, k_mn, k_mx, gXv1, gXw1, gXx1, gXy1, gXz1, gX02, gX12, gX22, gX32, gX42, gX52, gX62, gX72, Dn.setLast, Dn.getLast, evalO, mapO, Dn.get, putE, keepE, TV.one, TV.isAgg, Dn.part, sh_fn, h, firstIdx_any]

theorem fn48 {pg : Pg} (hF : Free pg) {n : Int} {l : List Line} (hc : chk n l = 0) {t : TV} {ps : List Int} (ht : ∀ H, elI.View H t ps) (hl : ps.length ≤ 9223372036854775807) :
    Fn pg 48 [.i .i64 n, LT true l, t] (.i .i64 (if ps.any (outOf n) then 1 else 0)) := by
  have hn : 1 ≤ n ∧ n ≤ 16 := by
    unfold chk at hc
    split at hc
    · omega
    · omega
  have h55 := body55 hF (H := [.cells [.i .i64 n] false]) (f := .fn 71 [] [.ref 0 0]) (P := outOf n) (ht _) (fun v => by rw [sh_fn]; exact body71 hF hn rfl) hl
  have h47 := call47 hF n true l
  cases hany : ps.any (outOf n) with
  | true =>
    rw [hany] at h55
    refine .of1 (x := .ret) (e := [(6, .i .i64 1)]) (H' := [.cells [.i .i64 n] false]) (hF.S _ _ (by decide)) (d := d48) (by rw [hF.F]; rfl) rfl ?_ (.inl rfl) rfl (by simp [sn_i, sn_b, gX92, gXa2, gXb2, gXc2, gXd2, gXe2, gXf2, gXg2, gXh2, gXi2, gXj2, gXk2, mapO, elems])
    simp [d48, c48, zipE, gX0, gX1, gX2, gX3, gX4, gX5, gX6, gX7, gX8, gX9, gXa, gXb, gXc, gXd, gXe, gXf, gXg, gXh, gXi, gXj, gXk, gXl, gXm, gXn, gXo, gXp, gXq, gXr, gXs, gXt, gXu, gXv, gXw, gXx, k_mv, gXy, gXz, gX01, gX11, gX21, gX31, gX41, gX51, gX61, gX71, gX81, gX91, gXa1, gXb1, gXc1, gXd1, gXe1, gXf1, gXg1, gXh1, gXi1, gXj1, gXk1, gXl1, gXm1, gXn1, gXo1, gXp1, gXq1, gXr1, gXs1, gXt1, gXu1, k_mn, k_mx, gXv1, gXw1, gXx1, gXy1, gXz1, gX02, gX12, gX22, gX32, gX42, gX52, gX62, gX72, Dn.setLast, Dn.getLast, evalO, mapO, Dn.get, putE, keepE, TV.one, TV.isAgg, Dn.part, h47, hc, gXk1, sh_fn, h55]
  | false =>
    rw [hany] at h55
    refine .of1 (x := .ret) (e := [(6, .i .i64 0)]) (H' := [.cells [.i .i64 n] false]) (hF.S _ _ (by decide)) (d := d48) (by rw [hF.F]; rfl) rfl ?_ (.inl rfl) rfl (by simp [sn_i, sn_b, gX92, gXa2, gXb2, gXc2, gXd2, gXe2, gXf2, gXg2, gXh2, gXi2, gXj2, gXk2, mapO, elems])
    simp [d48, c48, zipE, gX0, gX1, gX2, gX3, gX4, gX5, gX6, gX7, gX8, gX9, gXa, gXb, gXc, gXd, gXe, gXf, gXg, gXh, gXi, gXj, gXk, gXl, gXm, gXn, gXo, gXp, gXq, gXr, gXs, gXt, gXu, gXv, gXw, gXx, k_mv, gXy, gXz, gX01, gX11, gX21, gX31, gX41, gX51, gX61, gX71, gX81, gX91, gXa1, gXb1, gXc1, gXd1, gXe1, gXf1, gXg1, gXh1, gXi1, gXj1, gXk1, gXl1, gXm1, gXn1, gXo1, gXp1, gXq1, gXr1, gXs1, gXt1, gXu1, k_mn, k_mx, gXv1, gXw1, gXx1, gXy1, gXz1, gX02, gX12, gX22, gX32, gX42, gX52, gX62, gX72, Dn.setLast, Dn.getLast, evalO, mapO, Dn.get, putE, keepE, TV.one, TV.isAgg, Dn.part, h47, hc, gXk1, sh_fn, h55]

theorem opn1 {pg : Pg} (hF : Free pg) {n : Int} {l : List Line} (hc : chk n l = 0) (p : Int) : Opn pg n l [.i .i64 p] (if outOf n p then 1 else 0) := by
  have := fn48 hF hc (t := .bs true 1 [.i .i64 p]) (ps := [p]) (fun H => .inr (.inl ⟨true, rfl⟩)) (by simp)
  simpa [Opn, Opn0] using this

theorem opn2 {pg : Pg} (hF : Free pg) {n : Int} {l : List Line} (hc : chk n l = 0) (p q : Int) : Opn pg n l [.i .i64 p, .i .i64 q] (if outOf n p || outOf n q then 1 else 0) := by
  have := fn48 hF hc (t := .bs true 1 [.i .i64 p, .i .i64 q]) (ps := [p, q]) (fun H => .inr (.inl ⟨true, rfl⟩)) (by simp)
  simpa [Opn, Opn0] using this

theorem opn0 {pg : Pg} (hF : Free pg) {n : Int} {l : List Line} (hc : chk n l = 0) : Opn0 pg n l 0 := by
  have := fn48 hF hc (t := .nilsl) (ps := []) (fun H => .inl ⟨rfl, rfl⟩) (by simp)
  simpa [Opn, Opn0] using this

end Go.Proofs.Try.Dn

/-
  The loop over a board's jumps.
-/

namespace Go.Proofs.Try.Dn
open Go.Dn

def rev (x : Line) : Line := (x.2.2, x.2.1, x.1)
def js : List Line → List Line
  | [] => []
  | x :: l => x :: rev x :: js l

theorem js_len : ∀ l, (js l).length = 2 * l.length
  | [] => rfl
  | x :: l => by simp [js, js_len l]; omega

theorem js_even : ∀ (l : List Line) (i : Nat) (x : Line), l[i]? = some x → (js l)[2 * i]? = some x ∧ (js l)[2 * i + 1]? = some (rev x)
  | [], i, x, h => by simp at h
  | y :: l, 0, x, h => by simp at h; subst h; exact ⟨rfl, rfl⟩
  | y :: l, i + 1, x, h => by
    have := js_even l i x (by simpa using h)
    rw [show 2 * (i + 1) = 2 * i + 1 + 1 by omega]
    simpa [js] using this

structure Over (pg : Pg) (id : Nat) (L : ALoop) (l : List Line) (I : Nat → Heap → Prop) (Q : Nat → Ex → Heap → Prop) : Prop where
  ready : L.st = .ready
  pend : L.pend = none
  two : L.params.length = 2
  step : ∀ k j H X, (js l)[k]? = some j → I k H → H[id]? = some (.loop L) → ∃ x H', Body pg id L [.i .i64 (k : Int), lineTV j] (H ++ X) x H' ∧ (∀ i y, X[i]? = some y → H'[H.length + i]? = some y) ∧ (x = .normal ∧ I (k + 1) H' ∨ x ≠ .normal ∧ Q k x H')

def doneL (L : ALoop) (x : Ex) : ALoop := { L with st := .done, pend := some x }

theorem l77_all {pg : Pg} (hF : Free pg) {id : Nat} {L : ALoop} {l : List Line} {I : Nat → Heap → Prop} {Q : Nat → Ex → Heap → Prop} (ho : Over pg id L l I Q) (hl : l.length ≤ 40) {b : Bool} : ∀ (k i : Nat) (H : Heap), i + k = l.length → I (2 * i) H → H[id]? = some (.loop L) →
    ∃ x e H', den pg l77_1 [(0, .yl id), (5, LT b l), (6, .i .i64 (l.length : Int)), (7, .i .i64 (i : Int))] H = some ⟨x, e, H'⟩ ∧
      (x = .exit 0 ∧ I (2 * l.length) H' ∧ H'[id]? = some (.loop L) ∨ x = .ret ∧ ∃ k y H1, Q k y H1 ∧ y ≠ .normal ∧ H1[id]? = some (.loop L) ∧ H' = H1.set id (.loop (doneL L y)))
  | 0, i, H, h, hI, hL => by
    obtain rfl : i = l.length := by omega
    refine ⟨.exit 0, [(0, .yl id), (5, LT b l), (6, .i .i64 (l.length : Int)), (7, .i .i64 (l.length : Int)), (8, .b false)], H, ?_, .inl ⟨rfl, hI, hL⟩⟩
    rw [l77_1, den_loop]
    simp [b77_0, gX0, gX1, gX2, gX3, gX4, gX5, gX6, gX7, gX8, gX9, gXa, gXb, gXc, gXd, gXe, gXf, gXg, gXh, gXi, gXj, gXk, gXl, gXm, gXn, gXo, gXp, gXq, gXr, gXs, gXt, gXu, gXv, gXw, gXx, k_mv, gXy, gXz, gX01, gX11, gX21, gX31, gX41, gX51, gX61, gX71, gX81, gX91, gXa1, gXb1, gXc1, gXd1, gXe1, gXf1, gXg1, gXh1, gXi1, gXj1, gXk1, gXl1, gXm1, gXn1, gXo1, gXp1, gXq1, gXr1, gXs1, gXt1, gXu1, k_mn, k_mx, gXv1, gXw1, gXx1, gXy1, gXz1, gX02, gX12, gX22, gX32, gX42, gX52, gX62, gX72, Dn.setLast, Dn.getLast, evalO, mapO, Dn.get, putE, keepE, TV.one, TV.isAgg, Dn.part]
  | k + 1, i, H, h, hI, hL => by
    have hi : i < l.length := by omega
    have hx : l[i]? = some l[i] := List.getElem?_eq_getElem hi
    have hlt := (List.getElem?_eq_some_iff.1 hL).1
    generalize l[i] = x at hx
    obtain ⟨j0, j1⟩ := js_even l i x hx
    have e1 : ((i : Int) < (l.length : Int)) := by omega
    have e2 : wrapR .i64 ((i : Int) + 1) = .i .i64 ((i : Int) + 1) := gX82 (by omega)
    have e3 : wrapR .i64 (2 * (i : Int)) = .i .i64 (2 * (i : Int)) := gX82 (by omega)
    have e4 : wrapR .i64 (2 * (i : Int) + 1) = .i .i64 (2 * (i : Int) + 1) := gX82 (by omega)
    have hne := LT_getne hx
    obtain ⟨x1, H1, b1, f1, r1⟩ := ho.step _ _ H [cl x] j0 hI hL
    have hc1 := f1 0 (cl x) rfl
    simp only [Nat.add_zero] at hc1
    have y1 := yield_of ho.ready ho.pend (by rw [ho.two]; rfl) (by rw [List.getElem?_append_left hlt]; exact hL) b1
    have t1 := b1.there
    rw [show ((2 * i : Nat) : Int) = 2 * (i : Int) by omega] at y1
    simp only [lineTV, cl] at y1 hc1
    rcases r1 with ⟨rfl, hI1⟩ | ⟨hn1, hQ⟩
    · rw [if_pos rfl] at y1
      obtain ⟨x2, H2, b2, f2, r2⟩ := ho.step _ _ H1 [] j1 hI1 t1
      rw [List.append_nil] at b2
      have y2 := yield_of ho.ready ho.pend (by rw [ho.two]; rfl) t1 b2
      have t2 := b2.there
      rw [show ((2 * i + 1 : Nat) : Int) = 2 * (i : Int) + 1 by omega] at y2
      simp only [lineTV, rev] at y2
      rcases r2 with ⟨rfl, hI2⟩ | ⟨hn2, hQ⟩
      · rw [if_pos rfl] at y2
        obtain ⟨x', e', H', h1, h2⟩ := l77_all hF ho hl (b := b) k (i + 1) H2 (by omega) (by rw [show 2 * (i + 1) = 2 * i + 1 + 1 by omega]; exact hI2) t2
        refine ⟨x', e', H', Eq.trans ?_ h1, h2⟩
        rw [LT_ne hne]
        rw [l77_1, den_loop]
        simp [l77_1, b77_0, gX0, gX1, gX2, gX3, gX4, gX5, gX6, gX7, gX8, gX9, gXa, gXb, gXc, gXd, gXe, gXf, gXg, gXh, gXi, gXj, gXk, gXl, gXm, gXn, gXo, gXp, gXq, gXr, gXs, gXt, gXu, gXv, gXw, gXx, k_mv, gXy, gXz, gX01, gX11, gX21, gX31, gX41, gX51, gX61, gX71, gX81, gX91, gXa1, gXb1, gXc1, gXd1, gXe1, gXf1, gXg1, gXh1, gXi1, gXj1, gXk1, gXl1, gXm1, gXn1, gXo1, gXp1, gXq1, gXr1, gXs1, gXt1, gXu1, k_mn, k_mx, gXv1, gXw1, gXx1, gXy1, gXz1, gX02, gX12, gX22, gX32, gX42, gX52, gX62, gX72, Dn.setLast, Dn.getLast, evalO, mapO, Dn.get, putE, keepE, TV.one, TV.isAgg, Dn.part, e1, e2, e3, e4, hx, lineTV, put2, fillP, TV.cells, sh_yl, y1, y2, hc1]
      · rw [if_neg hn2] at y2
        refine ⟨.ret, [(0, .yl id), (5, LT b l), (6, .i .i64 (l.length : Int)), (7, .i .i64 (i : Int)), (38, .b true)], _, ?_, .inr ⟨rfl, _, x2, H2, hQ, hn2, t2, rfl⟩⟩
        rw [LT_ne hne]
        rw [l77_1, den_loop]
        simp [l77_1, b77_0, gX0, gX1, gX2, gX3, gX4, gX5, gX6, gX7, gX8, gX9, gXa, gXb, gXc, gXd, gXe, gXf, gXg, gXh, gXi, gXj, gXk, gXl, gXm, gXn, gXo, gXp, gXq, gXr, gXs, gXt, gXu, gXv, gXw, gXx, k_mv, gXy, gXz, gX01, gX11, gX21, gX31, gX41, gX51, gX61, gX71, gX81, gX91, gXa1, gXb1, gXc1, gXd1, gXe1, gXf1, gXg1, gXh1, gXi1, gXj1, gXk1, gXl1, gXm1, gXn1, gXo1, gXp1, gXq1, gXr1, gXs1, gXt1, gXu1, k_mn, k_mx, gXv1, gXw1, gXx1, gXy1, gXz1, gX02, gX12, gX22, gX32, gX42, gX52, gX62, gX72, Dn.setLast, Dn.getLast, evalO, mapO, Dn.get, putE, keepE, TV.one, TV.isAgg, Dn.part, e1, e2, e3, e4, hx, lineTV, put2, fillP, TV.cells, sh_yl, y1, y2, hc1, doneL]
    · rw [if_neg hn1] at y1
      refine ⟨.ret, [(0, .yl id), (5, LT b l), (6, .i .i64 (l.length : Int)), (7, .i .i64 (i : Int)), (38, .b true)], _, ?_, .inr ⟨rfl, _, x1, H1, hQ, hn1, t1, rfl⟩⟩
      rw [LT_ne hne]
      rw [l77_1, den_loop]
      simp [l77_1, b77_0, gX0, gX1, gX2, gX3, gX4, gX5, gX6, gX7, gX8, gX9, gXa, gXb, gXc, gXd, gXe, gXf, gXg, gXh, gXi, gXj, gXk, gXl, gXm, gXn, gXo, gXp, gXq, gXr, gXs, gXt, gXu, gXv, gXw, gXx, k_mv, gXy, gXz, gX01, gX11, gX21, gX31, gX41, gX51, gX61, gX71, gX81, gX91, gXa1, gXb1, gXc1, gXd1, gXe1, gXf1, gXg1, gXh1, gXi1, gXj1, gXk1, gXl1, gXm1, gXn1, gXo1, gXp1, gXq1, gXr1, gXs1, gXt1, gXu1, k_mn, k_mx, gXv1, gXw1, gXx1, gXy1, gXz1, gX02, gX12, gX22, gX32, gX42, gX52, gX62, gX72, Dn.setLast, Dn.getLast, evalO, mapO, Dn.get, putE, keepE, TV.one, TV.isAgg, Dn.part, e1, e2, e3, e4, hx, lineTV, put2, fillP, TV.cells, sh_yl, y1, hc1, doneL]

theorem rf_jumps {pg : Pg} (hF : Free pg) {L : ALoop} {l : List Line} {I : Nat → Heap → Prop} {Q : Nat → Ex → Heap → Prop} {s : Opnd} {ps : List Nat} {as_ bd : DC} {ks : List Nat} {e : Env} {H : Heap} {b : Bool} {bid : Nat}
    (hL : L = { env := keepE ks e, params := ps, assign := as_, body := bd, st := .ready, pend := none }) (ho : Over pg H.length L l I Q) (hl : l.length ≤ 40) (hs : evalO pg e s = some (.fn 77 [] [.ref bid 0])) (hb : H[bid]? = some (.cells [LT b l] false)) (hI : I 0 (H ++ [.loop L])) :
    (∃ Hf o, I (2 * l.length) Hf ∧ Hf[H.length]? = some (.loop L) ∧ ∀ K, go pg (den pg) (.c (.rfunc s ps as_ bd ks) :: K) .normal e H = go pg (den pg) K .normal (keepE ks e) (Hf.set H.length (.loop o))) ∨
    (∃ k x Hf o, Q k x Hf ∧ x ≠ .normal ∧ Hf[H.length]? = some (.loop L) ∧ ∀ K, go pg (den pg) (.c (.rfunc s ps as_ bd ks) :: K) .normal e H = go pg (den pg) K x (keepE ks e) (Hf.set H.length (.loop o))) := by
  have hlt := (List.getElem?_eq_some_iff.1 hb).1
  have hb' : (H ++ [AObj.loop L])[bid]? = some (.cells [LT b l] false) := by rw [List.getElem?_append_left hlt]; exact hb
  have hlen : ∀ H, lenK 0 (LT b l) H = some l.length := LT_len b l
  have hag : (LT b l).isAgg = false := by cases l <;> rfl
  unfold TV.isAgg at hag
  obtain ⟨x, e', H', h1, h2⟩ := l77_all hF ho hl (b := b) l.length 0 (H ++ [.loop L]) (by omega) hI (by simp)
  simp only [Int.natCast_zero] at h1
  rcases h2 with ⟨rfl, h3, h4⟩ | ⟨rfl, k, y, H1, h3, h4, h5, rfl⟩
  · left
    have hbody : bodyRun pg (den pg) 77 [.yl H.length, .ref bid 0] (H ++ [.loop L]) = some (.tup [], H') := by
      refine bodyRun_of (vs := []) (o := ⟨.normal, e', H'⟩) (d := d77) (by rw [hF.F]; rfl) rfl ?_ (by simp) rfl
      rw [runC_go]
      simp [d77, c77, zipE, gX0, gX1, gX2, gX3, gX4, gX5, gX6, gX7, gX8, gX9, gXa, gXb, gXc, gXd, gXe, gXf, gXg, gXh, gXi, gXj, gXk, gXl, gXm, gXn, gXo, gXp, gXq, gXr, gXs, gXt, gXu, gXv, gXw, gXx, k_mv, gXy, gXz, gX01, gX11, gX21, gX31, gX41, gX51, gX61, gX71, gX81, gX91, gXa1, gXb1, gXc1, gXd1, gXe1, gXf1, gXg1, gXh1, gXi1, gXj1, gXk1, gXl1, gXm1, gXn1, gXo1, gXp1, gXq1, gXr1, gXs1, gXt1, gXu1, k_mn, k_mx, gXv1, gXw1, gXx1, gXy1, gXz1, gX02, gX12, gX22, gX32, gX42, gX52, gX62, gX72, Dn.setLast, Dn.getLast, evalO, mapO, Dn.get, putE, keepE, TV.one, TV.isAgg, Dn.part, hb', hag, hlen, go_den l77_1, h1]
    refine ⟨H', { L with st := .exhausted }, h3, h4, fun K => ?_⟩
    have := go_rfunc (K := K) (ps := ps) (as_ := as_) (bd := bd) (ks := ks) (H := H) hs (by rw [sh_fn, ← hL]; exact hbody) h4 (by rw [hL]; simp)
    rw [this, hL]
    rfl
  · right
    have hlt1 := (List.getElem?_eq_some_iff.1 h5).1
    have hbody : bodyRun pg (den pg) 77 [.yl H.length, .ref bid 0] (H ++ [.loop L]) = some (.tup [], H1.set H.length (.loop (doneL L y))) := by
      refine bodyRun_of (vs := []) (o := ⟨.ret, e', H1.set H.length (.loop (doneL L y))⟩) (d := d77) (by rw [hF.F]; rfl) rfl ?_ (by simp) rfl
      rw [runC_go]
      simp [d77, c77, zipE, gX0, gX1, gX2, gX3, gX4, gX5, gX6, gX7, gX8, gX9, gXa, gXb, gXc, gXd, gXe, gXf, gXg, gXh, gXi, gXj, gXk, gXl, gXm, gXn, gXo, gXp, gXq, gXr, gXs, gXt, gXu, gXv, gXw, gXx, k_mv, gXy, gXz, gX01, gX11, gX21, gX31, gX41, gX51, gX61, gX71, gX81, gX91, gXa1, gXb1, gXc1, gXd1, gXe1, gXf1, gXg1, gXh1, gXi1, gXj1, gXk1, gXl1, gXm1, gXn1, gXo1, gXp1, gXq1, gXr1, gXs1, gXt1, gXu1, k_mn, k_mx, gXv1, gXw1, gXx1, gXy1, gXz1, gX02, gX12, gX22, gX32, gX42, gX52, gX62, gX72, Dn.setLast, Dn.getLast, evalO, mapO, Dn.get, putE, keepE, TV.one, TV.isAgg, Dn.part, hb', hag, hlen, go_den l77_1, h1]
    refine ⟨k, y, H1, { doneL L y with st := .exhausted }, h3, h4, h5, fun K => ?_⟩
    have := go_rfunc (K := K) (ps := ps) (as_ := as_) (bd := bd) (ks := ks) (H := H) (L := doneL L y) hs (by rw [sh_fn, ← hL]; exact hbody) (by simp [hlt1]) (by simp [doneL])
    rw [this, List.set_set]
    rfl

end Go.Proofs.Try.Dn

/-
  More arguments of the statements about boards, by value.
-/

namespace Go.Proofs.Try.Dn
open Go.Dn Go.ChangeShapes Go.WideShapes Go.ChangeAt Go.RowKit

theorem agg_of {P : Program} {w : World} {r : Reach} {base : Nat} {t : TypeId} {v : Value} (h : Value.okWide P w r base t v) (ht : aggT P t = true) : ∃ cs, v = .agg cs := by
  unfold Value.okWide at h
  unfold aggT at ht
  split at h
  · obtain ⟨cs, h, _⟩ := h; exact ⟨cs, h⟩
  · obtain ⟨cs, h, _⟩ := h; exact ⟨cs, h⟩
  · rename_i h1 h2
    split at ht
    · rename_i h3; exact absurd h3 (h1 _)
    · rename_i h3; exact absurd h3 (h2 _ _)
    · cases ht

theorem IsLines.one {t : TV} {l : List Line} (h : IsLines t l) : t.one = true := by
  rcases h.1 with ⟨rfl, rfl⟩ | rfl <;> rfl
section
variable {H : Type} {enc : TypeId × Value → H} {w : World} {sp : Nat → Bool} {held : Bool}

end

end Go.Proofs.Try.Dn

