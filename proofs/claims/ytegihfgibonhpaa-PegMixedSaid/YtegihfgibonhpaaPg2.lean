/-
  Counting pegs: the reference's Size and OnesCount.
-/
import Derived.Test.YtegihfgibonhpaaPg
set_option linter.unusedSimpArgs false
set_option linter.unusedVariables false

namespace Go.Proofs.Try.Dn
open Go.Dn

theorem shr_u {m : Nat} (c : Nat) (hc : c < 64) : binI .shr (.i .u64 (m : Int)) (.i .u64 (c : Int)) = some (.i .u64 ((m / 2 ^ c : Nat) : Int)) := by
  have h0 : ¬ ((c : Int) < 0) := by omega
  have h1 : min c 64 = c := by omega
  have h2 : (0 : Int) ≤ 2 ^ c := Int.le_of_lt (Int.pow_pos (by decide))
  simp [binI, h1, IntKind.bits, Int.fdiv_eq_ediv_of_nonneg _ h2]

end Go.Proofs.Try.Dn

/-
  PegReached: sizes, lists compared, the least number of pegs.
-/

namespace Go.Proofs.Try.Dn
open Go.Dn

def pegsFrom (i m : Nat) : Nat := (List.range' i (16 - i)).countP fun j => m.testBit j

theorem pegsFrom_zero (m : Nat) : pegsFrom 0 m = pegs m := by
  unfold pegsFrom pegs
  rw [← List.range_eq_range']

theorem pegsFrom_step {i m : Nat} (hi : i < 16) : pegsFrom i m = (if m.testBit i then 1 else 0) + pegsFrom (i + 1) m := by
  unfold pegsFrom
  rw [show 16 - i = (16 - (i + 1)) + 1 by omega, List.range'_succ, List.countP_cons]
  omega

theorem pegsFrom_none {i m : Nat} (h : m < 2 ^ i) : pegsFrom i m = 0 := by
  unfold pegsFrom
  rw [List.countP_eq_zero]
  intro j hj
  have := (List.mem_range'_1.1 hj).1
  rw [Nat.testBit_lt_two_pow (Nat.lt_of_lt_of_le h (Nat.pow_le_pow_right (by decide) this))]
  decide

theorem l23_all {pg : Pg} {m : Nat} (hm : m < 65536) : ∀ (f i acc : Nat) (H : Heap), i + f = 16 → acc ≤ i →
    ∃ e, den pg l23_1 [(0, .i .i64 (m : Int)), (3, .i .i64 (acc : Int)), (4, .i .i64 (i : Int))] H = some ⟨.exit 0, e, H⟩ ∧ get e 3 = some (.i .i64 ((acc + pegsFrom i m : Nat) : Int)) := by
  have stop : ∀ (i acc : Nat) (H : Heap), i ≤ 16 → m < 2 ^ i → ∃ e, den pg l23_1 [(0, .i .i64 (m : Int)), (3, .i .i64 (acc : Int)), (4, .i .i64 (i : Int))] H = some ⟨.exit 0, e, H⟩ ∧ get e 3 = some (.i .i64 ((acc + pegsFrom i m : Nat) : Int)) := by
    intro i acc H hi hlt
    have hs := shr_eq (p := (m : Int)) (i := i) (k := .i64) (by omega)
    have hz : (m : Int) / 2 ^ i = 0 := by
      have : m / 2 ^ i = 0 := Nat.div_eq_of_lt hlt
      have h2 : ((m / 2 ^ i : Nat) : Int) = (m : Int) / 2 ^ i := by simp
      rw [← h2, this]; rfl
    rw [hz] at hs
    refine ⟨[(0, .i .i64 (m : Int)), (3, .i .i64 (acc : Int)), (4, .i .i64 (i : Int)), (8, .b false)], ?_, by rw [pegsFrom_none hlt]; rfl⟩
    rw [l23_1, den_loop]
    simp [b23_0, gX0, gX1, gX2, gX3, gX4, gX5, gX6, gX7, gX8, gX9, gXa, gXb, gXc, gXd, gXe, gXf, gXg, gXh, gXi, gXj, gXk, gXl, gXm, gXn, gXo, gXp, gXq, gXr, gXs, gXt, gXu, gXv, gXw, gXx, k_mv, gXy, gXz, gX01, gX11, gX21, gX31, gX41, gX51, gX61, gX71, gX81, gX91, gXa1, gXb1, gXc1, gXd1, gXe1, gXf1, gXg1, gXh1, gXi1, gXj1, gXk1, gXl1, gXm1, gXn1, gXo1, gXp1, gXq1, gXr1, gXs1, gXt1, gXu1, k_mn, k_mx, gXv1, gXw1, gXx1, gXy1, gXz1, gX02, gX12, gX22, gX32, gX42, gX52, gX62, gX72, Dn.setLast, Dn.getLast, evalO, mapO, Dn.get, putE, keepE, TV.one, TV.isAgg, Dn.part, hs]
  intro f
  induction f with
  | zero =>
    intro i acc H hi ha
    obtain rfl : i = 16 := by omega
    exact stop 16 acc H (by omega) (by omega)
  | succ f ih =>
    intro i acc H hi ha
    by_cases hlt : m < 2 ^ i
    · exact stop i acc H (by omega) hlt
    · have hs := shr_eq (p := (m : Int)) (i := i) (k := .i64) (by omega)
      have hpos : (0 : Int) < (m : Int) / 2 ^ i := by
        have : 0 < m / 2 ^ i := Nat.div_pos (by omega) (Nat.two_pow_pos i)
        have h2 : ((m / 2 ^ i : Nat) : Int) = (m : Int) / 2 ^ i := by simp
        omega
      have hrem : binI .rem (.i .i64 ((m : Int) / 2 ^ i)) (.i .i64 2) = some (.i .i64 (((if m.testBit i then 1 else 0 : Nat)) : Int)) := by
        rw [b_rem, if_neg (by decide), Int.tmod_eq_emod_of_nonneg (by omega), show (m : Int) / 2 ^ i % 2 = bt (m : Int) i from rfl, bt_test]
        split <;> rfl
      have hstep := pegsFrom_step (i := i) (m := m) (by omega)
      generalize hb : (if m.testBit i then 1 else 0 : Nat) = b at hrem hstep
      have hb1 : b ≤ 1 := by rw [← hb]; split <;> omega
      have e2 : wrapR .i64 ((i : Int) + 1) = .i .i64 ((i : Int) + 1) := gX82 (by omega)
      have e3 : wrapR .i64 ((acc : Int) + (b : Int)) = .i .i64 ((acc : Int) + (b : Int)) := gX82 (by omega)
      obtain ⟨e, h1, h2⟩ := ih (i + 1) (acc + b) H (by omega) (by omega)
      refine ⟨e, Eq.trans ?_ h1, by rw [hstep, ← Nat.add_assoc]; exact h2⟩
      generalize (m : Int) / 2 ^ i = w at hs hpos hrem
      rw [l23_1, den_loop]
      simp [l23_1, b23_0, gX0, gX1, gX2, gX3, gX4, gX5, gX6, gX7, gX8, gX9, gXa, gXb, gXc, gXd, gXe, gXf, gXg, gXh, gXi, gXj, gXk, gXl, gXm, gXn, gXo, gXp, gXq, gXr, gXs, gXt, gXu, gXv, gXw, gXx, k_mv, gXy, gXz, gX01, gX11, gX21, gX31, gX41, gX51, gX61, gX71, gX81, gX91, gXa1, gXb1, gXc1, gXd1, gXe1, gXf1, gXg1, gXh1, gXi1, gXj1, gXk1, gXl1, gXm1, gXn1, gXo1, gXp1, gXq1, gXr1, gXs1, gXt1, gXu1, k_mn, k_mx, gXv1, gXw1, gXx1, gXy1, gXz1, gX02, gX12, gX22, gX32, gX42, gX52, gX62, gX72, Dn.setLast, Dn.getLast, evalO, mapO, Dn.get, putE, keepE, TV.one, TV.isAgg, Dn.part, hs, hpos, hrem, e2, e3]

theorem fn23 {pg : Pg} (hF : Free pg) {m : Nat} (hm : m < 65536) : Fn pg 23 [.i .i64 (m : Int)] (.i .i64 (pegs m : Int)) := by
  obtain ⟨e, h1, h2⟩ := l23_all (pg := pg) hm 16 0 0 [] (by omega) (by omega)
  rw [pegsFrom_zero, Nat.zero_add] at h2
  simp only [Int.natCast_zero] at h1
  refine .of1 (x := .ret) (e := [(2, .i .i64 (pegs m : Int))]) (H' := []) (hF.S _ _ (by decide)) (d := d23) (by rw [hF.F]; rfl) rfl ?_ (.inl rfl) rfl (by simp [sn_i, sn_b, gX92, gXa2, gXb2, gXc2, gXd2, gXe2, gXf2, gXg2, gXh2, gXi2, gXj2, gXk2, mapO, elems])
  simp [d23, c23, zipE, gX0, gX1, gX2, gX3, gX4, gX5, gX6, gX7, gX8, gX9, gXa, gXb, gXc, gXd, gXe, gXf, gXg, gXh, gXi, gXj, gXk, gXl, gXm, gXn, gXo, gXp, gXq, gXr, gXs, gXt, gXu, gXv, gXw, gXx, k_mv, gXy, gXz, gX01, gX11, gX21, gX31, gX41, gX51, gX61, gX71, gX81, gX91, gXa1, gXb1, gXc1, gXd1, gXe1, gXf1, gXg1, gXh1, gXi1, gXj1, gXk1, gXl1, gXm1, gXn1, gXo1, gXp1, gXq1, gXr1, gXs1, gXt1, gXu1, k_mn, k_mx, gXv1, gXw1, gXx1, gXy1, gXz1, gX02, gX12, gX22, gX32, gX42, gX52, gX62, gX72, Dn.setLast, Dn.getLast, evalO, mapO, Dn.get, putE, keepE, TV.one, TV.isAgg, Dn.part, go_denK (c := l23_1) rfl, h1, h2]

end Go.Proofs.Try.Dn

/-
  PegReached: the whole run answers true.
-/

namespace Go.Proofs.Try.Dn
open Go.Dn

end Go.Proofs.Try.Dn

