/-
  Jumps: bits of positions; after and Jump.
-/
import Derived.Test.YtegihfgibonhpaaPd
set_option linter.unusedSimpArgs false
set_option linter.unusedVariables false

namespace Go.Proofs.Try.Dn
open Go.Dn

def nd (m k : Nat) : Nat := (BitVec.ofNat 64 m &&& ~~~BitVec.ofNat 64 k).toNat

theorem nd_or (m a b : Nat) : nd m (a ||| b) = nd (nd m a) b := by
  unfold nd
  rw [BitVec.ofNat_toNat, BitVec.setWidth_eq]
  congr 1
  have h : BitVec.ofNat 64 (a ||| b) = BitVec.ofNat 64 a ||| BitVec.ofNat 64 b := by
    apply BitVec.eq_of_toNat_eq
    rw [BitVec.toNat_or]
    simp only [BitVec.toNat_ofNat]
    exact Nat.or_mod_two_pow
  rw [h]
  generalize BitVec.ofNat 64 m = M
  generalize BitVec.ofNat 64 a = A
  generalize BitVec.ofNat 64 b = B
  apply BitVec.eq_of_getLsbD_eq
  intro i hi
  simp only [BitVec.getLsbD_and, BitVec.getLsbD_not, BitVec.getLsbD_or, hi, decide_true, Bool.true_and]
  cases M.getLsbD i <;> cases A.getLsbD i <;> cases B.getLsbD i <;> rfl

theorem nd_le (m k : Nat) : nd m k ≤ m := by
  unfold nd
  rw [BitVec.toNat_and]
  refine Nat.le_trans Nat.and_le_left ?_
  simp
  exact Nat.mod_le _ _

theorem ofInt_nat (m : Nat) : BitVec.ofInt 64 (m : Int) = BitVec.ofNat 64 m := by simp

theorem and_eq {m k : Nat} (hm : m < 65536) (hk : k < 65536) : binI .and (.i .i64 (m : Int)) (.i .i64 (k : Int)) = some (.i .i64 ((m &&& k : Nat) : Int)) := by
  have h1 : (m &&& k) ≤ m := Nat.and_le_left
  have : ((BitVec.ofInt 64 (m : Int)) &&& (BitVec.ofInt 64 (k : Int))).toNat = m &&& k := by
    rw [ofInt_nat, ofInt_nat, BitVec.toNat_and]
    simp only [BitVec.toNat_ofNat]
    rw [Nat.mod_eq_of_lt (by omega : m < 2 ^ 64), Nat.mod_eq_of_lt (by omega : k < 2 ^ 64)]
  rw [show binI .and (.i .i64 (m : Int)) (.i .i64 (k : Int)) = some (wrapR .i64 ((BitVec.ofInt 64 (m : Int)) &&& (BitVec.ofInt 64 (k : Int))).toNat) from rfl, this, gX82 (by omega)]

theorem or_eq {m k : Nat} (hm : m < 65536) (hk : k < 65536) : binI .or (.i .i64 (m : Int)) (.i .i64 (k : Int)) = some (.i .i64 ((m ||| k : Nat) : Int)) := by
  have h1 : (m ||| k) < 2 ^ 16 := Nat.or_lt_two_pow hm hk
  have : ((BitVec.ofInt 64 (m : Int)) ||| (BitVec.ofInt 64 (k : Int))).toNat = m ||| k := by
    rw [ofInt_nat, ofInt_nat, BitVec.toNat_or]
    simp only [BitVec.toNat_ofNat]
    rw [Nat.mod_eq_of_lt (by omega : m < 2 ^ 64), Nat.mod_eq_of_lt (by omega : k < 2 ^ 64)]
  rw [show binI .or (.i .i64 (m : Int)) (.i .i64 (k : Int)) = some (wrapR .i64 ((BitVec.ofInt 64 (m : Int)) ||| (BitVec.ofInt 64 (k : Int))).toNat) from rfl, this, gX82 (by omega)]

theorem nd_eq {m k : Nat} (hm : m < 65536) : binI .andNot (.i .i64 (m : Int)) (.i .i64 (k : Int)) = some (.i .i64 ((nd m k : Nat) : Int)) := by
  have h1 := nd_le m k
  rw [show binI .andNot (.i .i64 (m : Int)) (.i .i64 (k : Int)) = some (wrapR .i64 ((BitVec.ofInt 64 (m : Int)) &&& ~~~(BitVec.ofInt 64 (k : Int))).toNat) from rfl, ofInt_nat, ofInt_nat, show (BitVec.ofNat 64 m &&& ~~~BitVec.ofNat 64 k).toNat = nd m k from rfl, gX82 (by omega)]

theorem bt_test (m i : Nat) : bt (m : Int) i = if m.testBit i then 1 else 0 := by
  have h : bt (m : Int) i = ((m / 2 ^ i % 2 : Nat) : Int) := by
    unfold bt
    simp
  rw [h, Nat.testBit_eq_decide_div_mod_eq]
  split
  · rename_i h; simp at h; rw [h]; rfl
  · rename_i h; simp at h; rw [h]; rfl

theorem two_lt {a : Nat} (h : a < 16) : 2 ^ a < 65536 := by
  have : ∀ k : Nat, k < 16 → 2 ^ k < 65536 := by decide
  exact this a h

theorem and_two {m a b : Nat} : m &&& (2 ^ a ||| 2 ^ b) = 2 ^ a ||| 2 ^ b ↔ m.testBit a = true ∧ m.testBit b = true := by
  constructor
  · intro h
    have h1 := congrArg (·.testBit a) h
    have h2 := congrArg (·.testBit b) h
    simp [Nat.testBit_and, Nat.testBit_or, Nat.testBit_two_pow_self] at h1 h2
    exact ⟨h1, h2⟩
  · intro ⟨h1, h2⟩
    apply Nat.eq_of_testBit_eq
    intro i
    rw [Nat.testBit_and]
    by_cases hi : (2 ^ a ||| 2 ^ b).testBit i = true
    · rw [hi, Bool.and_true]
      rw [Nat.testBit_or, Nat.testBit_two_pow, Nat.testBit_two_pow] at hi
      simp at hi
      rcases hi with rfl | rfl <;> assumption
    · simp only [Bool.not_eq_true] at hi
      rw [hi, Bool.and_false]

theorem and_one_bit {m c : Nat} : m &&& 2 ^ c = 0 ↔ m.testBit c = false := by
  constructor
  · intro h
    have h1 := congrArg (·.testBit c) h
    simpa [Nat.testBit_and, Nat.testBit_two_pow_self] using h1
  · intro h
    apply Nat.eq_of_testBit_eq
    intro i
    rw [Nat.testBit_and, Nat.testBit_two_pow]
    by_cases hi : c = i
    · subst hi; simp [h]
    · simp [hi]

def can (m : Nat) (j : Line) : Bool := m.testBit j.1.toNat && m.testBit j.2.1.toNat && !m.testBit j.2.2.toNat
def leap (m : Nat) (j : Line) : Nat := nd m (2 ^ j.1.toNat ||| 2 ^ j.2.1.toNat) ||| 2 ^ j.2.2.toNat

theorem leap_lt {m : Nat} {j : Line} (hm : m < 65536) (hj : j.2.2.toNat < 16) : leap m j < 65536 := by
  have h1 := nd_le m (2 ^ j.1.toNat ||| 2 ^ j.2.1.toNat)
  exact Nat.or_lt_two_pow (n := 16) (by omega) (two_lt hj)

theorem shl_eq {k : IntKind} {a : Int} (h0 : 0 ≤ a) (h1 : a < 16) : binI .shl (.i .i64 1) (.i k a) = some (.i .i64 ((2 ^ a.toNat : Nat) : Int)) := by
  have h2 : ¬ a < 0 := by omega
  have h3 : min a.toNat 64 = a.toNat := by omega
  have h4 := two_lt (a := a.toNat) (by omega)
  have h5 : wrapR .i64 ((2 : Int) ^ a.toNat) = .i .i64 ((2 ^ a.toNat : Nat) : Int) := by
    rw [show ((2 : Int) ^ a.toNat) = ((2 ^ a.toNat : Nat) : Int) by simp]
    generalize 2 ^ a.toNat = z at h4 ⊢
    exact gX82 (by omega)
  simp only [binI, if_neg h2, IntKind.bits, h3, Int.one_mul, h5]

theorem u64_hole {a : Int} (h0 : 0 ≤ a) (h1 : a < 16) : wrapR .u64 a = .i .u64 a := by
  unfold wrapR; simp [IntKind.wrap, IntKind.signed, IntKind.bits]; omega

def Hole3 (j : Line) : Prop := 0 ≤ j.1 ∧ j.1 < 16 ∧ 0 ≤ j.2.1 ∧ j.2.1 < 16 ∧ 0 ≤ j.2.2 ∧ j.2.2 < 16

theorem Hole3.of {n : Int} {j : Line} (hn : n ≤ 16) (h : FitsJ n j) : Hole3 j := by
  unfold FitsJ at h; unfold Hole3; omega

theorem fn65 {pg : Pg} (hF : Free pg) {m : Nat} {j : Line} (hm : m < 65536) (hj : Hole3 j) : Fn pg 65 [lineTV j, .i .i64 (m : Int)] (.tup [.i .i64 (if can m j then (leap m j : Int) else 0), .b (can m j)]) := by
  obtain ⟨a, b, c⟩ := j
  obtain ⟨f1, f2, f3, f4, f5, f6⟩ := hj
  simp only at f1 f2 f3 f4 f5 f6
  have ta := two_lt (a := a.toNat) (by omega)
  have tb := two_lt (a := b.toNat) (by omega)
  have tc := two_lt (a := c.toNat) (by omega)
  have tab : 2 ^ a.toNat ||| 2 ^ b.toNat < 65536 := Nat.or_lt_two_pow (n := 16) ta tb
  have hor := or_eq ta tb
  have hand := and_eq hm tab
  have hand2 := and_eq hm tc
  have hnd := nd_eq (k := 2 ^ a.toNat ||| 2 ^ b.toNat) hm
  have hor2 := or_eq (m := nd m (2 ^ a.toNat ||| 2 ^ b.toNat)) (k := 2 ^ c.toNat) (by have := nd_le m (2 ^ a.toNat ||| 2 ^ b.toNat); omega) tc
  have ha := shl_eq (k := .u64) f1 f2
  have hb := shl_eq (k := .u64) f3 f4
  have hcc := shl_eq (k := .u64) f5 f6
  have ua := u64_hole f1 f2
  have ub := u64_hole f3 f4
  have uc := u64_hole f5 f6
  generalize hA : 2 ^ a.toNat ||| 2 ^ b.toNat = A at *
  generalize hC : 2 ^ c.toNat = C at *
  generalize hTA : 2 ^ a.toNat = TA at *
  generalize hTB : 2 ^ b.toNat = TB at *
  by_cases h1 : m &&& A = A
  · by_cases h2 : m &&& C = 0
    · have hcan : can m (a, b, c) = true := by
        have k1 := (and_two (m := m) (a := a.toNat) (b := b.toNat)).1 (by rw [hTA, hTB, hA]; exact h1)
        have k2 := (and_one_bit (m := m) (c := c.toNat)).1 (by rw [hC]; exact h2)
        simp [can, k1, k2]
      have hl : leap m (a, b, c) = nd m A ||| C := by simp only [leap, hTA, hTB, hA, hC]
      rw [hcan]
      have b1 : (((m &&& A : Nat) : Int) != ((A : Nat) : Int)) = false := by simp [h1]
      have b2 : (((m &&& C : Nat) : Int) != 0) = false := by simp [h2]
      refine .of2 (x := .ret) (e := [(4, .i .i64 ((nd m A ||| C : Nat) : Int)), (5, .b true)]) (H' := [.cells [.i .i64 a, .i .i64 b, .i .i64 c] true]) (hF.S _ _ (by decide)) (d := d65) (by rw [hF.F]; rfl) rfl ?_ (.inl rfl) (by simp [d65, mapO, resRun, Dn.get, hl]) (by simp) (by simp [sn_i, sn_b, gX92, gXa2, gXb2, gXc2, gXd2, gXe2, gXf2, gXg2, gXh2, gXi2, gXj2, gXk2, mapO, elems])
      simp [d65, c65, zipE, gX0, gX1, gX2, gX3, gX4, gX5, gX6, gX7, gX8, gX9, gXa, gXb, gXc, gXd, gXe, gXf, gXg, gXh, gXi, gXj, gXk, gXl, gXm, gXn, gXo, gXp, gXq, gXr, gXs, gXt, gXu, gXv, gXw, gXx, k_mv, gXy, gXz, gX01, gX11, gX21, gX31, gX41, gX51, gX61, gX71, gX81, gX91, gXa1, gXb1, gXc1, gXd1, gXe1, gXf1, gXg1, gXh1, gXi1, gXj1, gXk1, gXl1, gXm1, gXn1, gXo1, gXp1, gXq1, gXr1, gXs1, gXt1, gXu1, k_mn, k_mx, gXv1, gXw1, gXx1, gXy1, gXz1, gX02, gX12, gX22, gX32, gX42, gX52, gX62, gX72, Dn.setLast, Dn.getLast, evalO, mapO, Dn.get, putE, keepE, TV.one, TV.isAgg, Dn.part, lineTV, ua, ub, uc, ha, hb, hcc, hor, hand, hand2, hnd, hor2, h1, h2]
    · have hcan : can m (a, b, c) = false := by
        have k2 := mt (and_one_bit (m := m) (c := c.toNat)).2 (by rw [hC]; exact h2)
        simp [can] at k2 ⊢
        intro _ _; exact k2
      rw [hcan]
      refine .of2 (x := .ret) (e := [(4, .i .i64 0), (5, .b false)]) (H' := [.cells [.i .i64 a, .i .i64 b, .i .i64 c] true]) (hF.S _ _ (by decide)) (d := d65) (by rw [hF.F]; rfl) rfl ?_ (.inl rfl) (by simp [d65, mapO, resRun, Dn.get]) (by simp) (by simp [sn_i, sn_b, gX92, gXa2, gXb2, gXc2, gXd2, gXe2, gXf2, gXg2, gXh2, gXi2, gXj2, gXk2, mapO, elems])
      have b2 : (((m &&& C : Nat) : Int) != 0) = true := by simp; omega
      simp [d65, c65, zipE, gX0, gX1, gX2, gX3, gX4, gX5, gX6, gX7, gX8, gX9, gXa, gXb, gXc, gXd, gXe, gXf, gXg, gXh, gXi, gXj, gXk, gXl, gXm, gXn, gXo, gXp, gXq, gXr, gXs, gXt, gXu, gXv, gXw, gXx, k_mv, gXy, gXz, gX01, gX11, gX21, gX31, gX41, gX51, gX61, gX71, gX81, gX91, gXa1, gXb1, gXc1, gXd1, gXe1, gXf1, gXg1, gXh1, gXi1, gXj1, gXk1, gXl1, gXm1, gXn1, gXo1, gXp1, gXq1, gXr1, gXs1, gXt1, gXu1, k_mn, k_mx, gXv1, gXw1, gXx1, gXy1, gXz1, gX02, gX12, gX22, gX32, gX42, gX52, gX62, gX72, Dn.setLast, Dn.getLast, evalO, mapO, Dn.get, putE, keepE, TV.one, TV.isAgg, Dn.part, lineTV, ua, ub, uc, ha, hb, hcc, hor, hand, hand2, hnd, hor2, h1, b2]
  · have hcan : can m (a, b, c) = false := by
      have k2 := mt (and_two (m := m) (a := a.toNat) (b := b.toNat)).2 (by rw [hTA, hTB, hA]; exact h1)
      simp [can] at k2 ⊢
      intro h3 h4
      rw [k2 h3] at h4; cases h4
    rw [hcan]
    have b1 : (((m &&& A : Nat) : Int) != ((A : Nat) : Int)) = true := by simp; omega
    refine .of2 (x := .ret) (e := [(4, .i .i64 0), (5, .b false)]) (H' := [.cells [.i .i64 a, .i .i64 b, .i .i64 c] true]) (hF.S _ _ (by decide)) (d := d65) (by rw [hF.F]; rfl) rfl ?_ (.inl rfl) (by simp [d65, mapO, resRun, Dn.get]) (by simp) (by simp [sn_i, sn_b, gX92, gXa2, gXb2, gXc2, gXd2, gXe2, gXf2, gXg2, gXh2, gXi2, gXj2, gXk2, mapO, elems])
    simp [d65, c65, zipE, gX0, gX1, gX2, gX3, gX4, gX5, gX6, gX7, gX8, gX9, gXa, gXb, gXc, gXd, gXe, gXf, gXg, gXh, gXi, gXj, gXk, gXl, gXm, gXn, gXo, gXp, gXq, gXr, gXs, gXt, gXu, gXv, gXw, gXx, k_mv, gXy, gXz, gX01, gX11, gX21, gX31, gX41, gX51, gX61, gX71, gX81, gX91, gXa1, gXb1, gXc1, gXd1, gXe1, gXf1, gXg1, gXh1, gXi1, gXj1, gXk1, gXl1, gXm1, gXn1, gXo1, gXp1, gXq1, gXr1, gXs1, gXt1, gXu1, k_mn, k_mx, gXv1, gXw1, gXx1, gXy1, gXz1, gX02, gX12, gX22, gX32, gX42, gX52, gX62, gX72, Dn.setLast, Dn.getLast, evalO, mapO, Dn.get, putE, keepE, TV.one, TV.isAgg, Dn.part, lineTV, ua, ub, uc, ha, hb, hcc, hor, hand, hand2, hnd, hor2, b1]


theorem fn39 {pg : Pg} (hF : Free pg) {m : Nat} {j : Line} (hm : m < 65536) (hj : Hole3 j) : Fn pg 39 [.i .i64 (m : Int), lineTV j] (.tup [.i .i64 (if can m j then (leap m j : Int) else (m : Int)), .b (can m j)]) := by
  obtain ⟨a, b, c⟩ := j
  obtain ⟨f1, f2, f3, f4, f5, f6⟩ := hj
  simp only at f1 f2 f3 f4 f5 f6
  have hsh : ∀ x : Int, 0 ≤ x → x < 16 → binI .shr (.i .i64 (m : Int)) (.i .i64 x) = some (.i .i64 ((m : Int) / 2 ^ x.toNat)) := by
    intro x h0 h1
    have := shr_eq (p := (m : Int)) (i := x.toNat) (k := .i64) (by omega)
    rwa [show ((x.toNat : Nat) : Int) = x by omega] at this
  have hrem : ∀ x : Int, binI .rem (.i .i64 ((m : Int) / 2 ^ x.toNat)) (.i .i64 2) = some (.i .i64 (if m.testBit x.toNat then 1 else 0)) := by
    intro x
    have hnn : 0 ≤ (m : Int) / 2 ^ x.toNat := Int.ediv_nonneg (by omega) (Int.le_of_lt (Int.pow_pos (by decide)))
    rw [b_rem, if_neg (by decide), Int.tmod_eq_emod_of_nonneg hnn, show (m : Int) / 2 ^ x.toNat % 2 = bt (m : Int) x.toNat from rfl, bt_test]
  have sa := hsh a f1 f2
  have sb := hsh b f3 f4
  have sc := hsh c f5 f6
  have ra := hrem a
  have rb := hrem b
  have rc := hrem c
  by_cases h1 : m.testBit a.toNat = true
  · by_cases h2 : m.testBit b.toNat = true
    · by_cases h3 : m.testBit c.toNat = true
      · have hcan : can m (a, b, c) = false := by simp [can, h3]
        rw [hcan]
        rw [if_pos h1] at ra; rw [if_pos h2] at rb; rw [if_pos h3] at rc
        refine .of2 (x := .ret) (e := [(4, .i .i64 (m : Int)), (5, .b false)]) (H' := [.cells [.i .i64 a, .i .i64 b, .i .i64 c] true]) (hF.S _ _ (by decide)) (d := d39) (by rw [hF.F]; rfl) rfl ?_ (.inl rfl) (by simp [d39, mapO, resRun, Dn.get]) (by simp) (by simp [sn_i, sn_b, gX92, gXa2, gXb2, gXc2, gXd2, gXe2, gXf2, gXg2, gXh2, gXi2, gXj2, gXk2, mapO, elems])
        simp [d39, c39, zipE, gX0, gX1, gX2, gX3, gX4, gX5, gX6, gX7, gX8, gX9, gXa, gXb, gXc, gXd, gXe, gXf, gXg, gXh, gXi, gXj, gXk, gXl, gXm, gXn, gXo, gXp, gXq, gXr, gXs, gXt, gXu, gXv, gXw, gXx, k_mv, gXy, gXz, gX01, gX11, gX21, gX31, gX41, gX51, gX61, gX71, gX81, gX91, gXa1, gXb1, gXc1, gXd1, gXe1, gXf1, gXg1, gXh1, gXi1, gXj1, gXk1, gXl1, gXm1, gXn1, gXo1, gXp1, gXq1, gXr1, gXs1, gXt1, gXu1, k_mn, k_mx, gXv1, gXw1, gXx1, gXy1, gXz1, gX02, gX12, gX22, gX32, gX42, gX52, gX62, gX72, Dn.setLast, Dn.getLast, evalO, mapO, Dn.get, putE, keepE, TV.one, TV.isAgg, Dn.part, lineTV, sa, sb, sc, ra, rb, rc]
      · have hcan : can m (a, b, c) = true := by simp [can, h1, h2, h3]
        rw [hcan]
        rw [if_pos h1] at ra; rw [if_pos h2] at rb; rw [if_neg h3] at rc
        have ta := two_lt (a := a.toNat) (by omega)
        have tb := two_lt (a := b.toNat) (by omega)
        have tc := two_lt (a := c.toNat) (by omega)
        have ha := shl_eq (k := .i64) f1 f2
        have hb := shl_eq (k := .i64) f3 f4
        have hcc := shl_eq (k := .i64) f5 f6
        have hl : leap m (a, b, c) = nd (nd m (2 ^ a.toNat)) (2 ^ b.toNat) ||| 2 ^ c.toNat := by unfold leap; rw [nd_or]
        generalize 2 ^ a.toNat = TA at *
        generalize 2 ^ b.toNat = TB at *
        generalize 2 ^ c.toNat = TC at *
        have n1 := nd_eq (k := TA) hm
        have l1 := nd_le m TA
        have n2 := nd_eq (m := nd m TA) (k := TB) (by omega)
        have l2 := nd_le (nd m TA) TB
        have n3 := or_eq (m := nd (nd m TA) TB) (k := TC) (by omega) tc
        refine .of2 (x := .ret) (e := [(4, .i .i64 ((nd (nd m TA) TB ||| TC : Nat) : Int)), (5, .b true)]) (H' := [.cells [.i .i64 a, .i .i64 b, .i .i64 c] true]) (hF.S _ _ (by decide)) (d := d39) (by rw [hF.F]; rfl) rfl ?_ (.inl rfl) (by simp [d39, mapO, resRun, Dn.get, hl]) (by simp) (by simp [sn_i, sn_b, gX92, gXa2, gXb2, gXc2, gXd2, gXe2, gXf2, gXg2, gXh2, gXi2, gXj2, gXk2, mapO, elems])
        simp [d39, c39, zipE, gX0, gX1, gX2, gX3, gX4, gX5, gX6, gX7, gX8, gX9, gXa, gXb, gXc, gXd, gXe, gXf, gXg, gXh, gXi, gXj, gXk, gXl, gXm, gXn, gXo, gXp, gXq, gXr, gXs, gXt, gXu, gXv, gXw, gXx, k_mv, gXy, gXz, gX01, gX11, gX21, gX31, gX41, gX51, gX61, gX71, gX81, gX91, gXa1, gXb1, gXc1, gXd1, gXe1, gXf1, gXg1, gXh1, gXi1, gXj1, gXk1, gXl1, gXm1, gXn1, gXo1, gXp1, gXq1, gXr1, gXs1, gXt1, gXu1, k_mn, k_mx, gXv1, gXw1, gXx1, gXy1, gXz1, gX02, gX12, gX22, gX32, gX42, gX52, gX62, gX72, Dn.setLast, Dn.getLast, evalO, mapO, Dn.get, putE, keepE, TV.one, TV.isAgg, Dn.part, lineTV, sa, sb, sc, ra, rb, rc, ha, hb, hcc, n1, n2, n3]
    · have hcan : can m (a, b, c) = false := by simp [can, h2]
      rw [hcan]
      rw [if_pos h1] at ra; rw [if_neg h2] at rb
      refine .of2 (x := .ret) (e := [(4, .i .i64 (m : Int)), (5, .b false)]) (H' := [.cells [.i .i64 a, .i .i64 b, .i .i64 c] true]) (hF.S _ _ (by decide)) (d := d39) (by rw [hF.F]; rfl) rfl ?_ (.inl rfl) (by simp [d39, mapO, resRun, Dn.get]) (by simp) (by simp [sn_i, sn_b, gX92, gXa2, gXb2, gXc2, gXd2, gXe2, gXf2, gXg2, gXh2, gXi2, gXj2, gXk2, mapO, elems])
      simp [d39, c39, zipE, gX0, gX1, gX2, gX3, gX4, gX5, gX6, gX7, gX8, gX9, gXa, gXb, gXc, gXd, gXe, gXf, gXg, gXh, gXi, gXj, gXk, gXl, gXm, gXn, gXo, gXp, gXq, gXr, gXs, gXt, gXu, gXv, gXw, gXx, k_mv, gXy, gXz, gX01, gX11, gX21, gX31, gX41, gX51, gX61, gX71, gX81, gX91, gXa1, gXb1, gXc1, gXd1, gXe1, gXf1, gXg1, gXh1, gXi1, gXj1, gXk1, gXl1, gXm1, gXn1, gXo1, gXp1, gXq1, gXr1, gXs1, gXt1, gXu1, k_mn, k_mx, gXv1, gXw1, gXx1, gXy1, gXz1, gX02, gX12, gX22, gX32, gX42, gX52, gX62, gX72, Dn.setLast, Dn.getLast, evalO, mapO, Dn.get, putE, keepE, TV.one, TV.isAgg, Dn.part, lineTV, sa, sb, sc, ra, rb, rc]
  · have hcan : can m (a, b, c) = false := by simp [can, h1]
    rw [hcan]
    rw [if_neg h1] at ra
    refine .of2 (x := .ret) (e := [(4, .i .i64 (m : Int)), (5, .b false)]) (H' := [.cells [.i .i64 a, .i .i64 b, .i .i64 c] true]) (hF.S _ _ (by decide)) (d := d39) (by rw [hF.F]; rfl) rfl ?_ (.inl rfl) (by simp [d39, mapO, resRun, Dn.get]) (by simp) (by simp [sn_i, sn_b, gX92, gXa2, gXb2, gXc2, gXd2, gXe2, gXf2, gXg2, gXh2, gXi2, gXj2, gXk2, mapO, elems])
    simp [d39, c39, zipE, gX0, gX1, gX2, gX3, gX4, gX5, gX6, gX7, gX8, gX9, gXa, gXb, gXc, gXd, gXe, gXf, gXg, gXh, gXi, gXj, gXk, gXl, gXm, gXn, gXo, gXp, gXq, gXr, gXs, gXt, gXu, gXv, gXw, gXx, k_mv, gXy, gXz, gX01, gX11, gX21, gX31, gX41, gX51, gX61, gX71, gX81, gX91, gXa1, gXb1, gXc1, gXd1, gXe1, gXf1, gXg1, gXh1, gXi1, gXj1, gXk1, gXl1, gXm1, gXn1, gXo1, gXp1, gXq1, gXr1, gXs1, gXt1, gXu1, k_mn, k_mx, gXv1, gXw1, gXx1, gXy1, gXz1, gX02, gX12, gX22, gX32, gX42, gX52, gX62, gX72, Dn.setLast, Dn.getLast, evalO, mapO, Dn.get, putE, keepE, TV.one, TV.isAgg, Dn.part, lineTV, sa, sb, sc, ra, rb, rc]

end Go.Proofs.Try.Dn

/-
  Jumps: whether a jump is one of a line's, and the reference's play.
-/

namespace Go.Proofs.Try.Dn
open Go.Dn

def same (x y : Line) : Bool := decide (x = y)

theorem ld_cl {pg : Pg} {R : Rec} {H : Heap} {id : Nat} {x : Line} (h : H[id]? = some (cl x)) : dkc pg R (.ld 3 true) [.ref id 0] H = some (.agg [.i .i64 x.1, .i .i64 x.2.1, .i .i64 x.2.2], H) ∧
    dkc pg R (.ld 1 false) [.ref id 0] H = some (.i .i64 x.1, H) ∧ dkc pg R (.ld 1 false) [.ref id 1] H = some (.i .i64 x.2.1, H) ∧ dkc pg R (.ld 1 false) [.ref id 2] H = some (.i .i64 x.2.2, H) := by
  refine ⟨?_, ?_, ?_, ?_⟩ <;> rw [gXb1, h] <;> rfl

theorem LW_snap0 (b : Bool) (l : List Line) (H : Heap) : snap .borrow H 9 (LT b l) = some (LT true l) := snap_LT b H l

end Go.Proofs.Try.Dn

/-
  Jumps: the program's play.
-/

namespace Go.Proofs.Try.Dn
open Go.Dn

end Go.Proofs.Try.Dn

/-
  Jumps: the reference's list of jumps consists of a board's jumps.
-/

namespace Go.Proofs.Try.Dn
open Go.Dn

theorem insert2 {H : Heap} {out : TV} {m : List Line} {x : Line} {at_ : Nat} (ho : elL.Own H out m) (ha : at_ ≤ m.length) (hm : m.length ≤ 1000) :
    ∃ v1 v2 t1 H1 t2 H2 t3 H3, slcRun false true false 3 true out [.i .i64 (at_ : Int)] = some v1 ∧ appRun 3 true 24 .nilsl v1 H = some (t1, H1) ∧
      (∀ j, j < H.length → H1[j]? = H[j]?) ∧
      appRun 3 true 24 t1 (.sl H1.length 0 3 true 1 (some 1)) (H1 ++ [.cells [.i .i64 x.1, .i .i64 x.2.1, .i .i64 x.2.2] false]) = some (t2, H2) ∧
      slcRun true false false 3 true out [.i .i64 (at_ : Int)] = some v2 ∧ appRun 3 true 24 t2 v2 H2 = some (t3, H3) ∧ elL.Own H3 t3 (m.take at_ ++ [x] ++ m.drop at_) ∧ (∀ j, j < H.length → H3[j]? = H[j]?) ∧ (∀ id, t3.idOf = some id → H.length ≤ id) := by
  have hb1 : bounds3 false true false m.length [.i .i64 (at_ : Int)] = some (0, at_, none) := by simp [bounds3, bound]
  have hb2 : bounds3 true false false m.length [.i .i64 (at_ : Int)] = some (at_, m.length, none) := by simp [bounds3, bound, ha]
  obtain ⟨v1, s1, w1, _⟩ := ho.view.slc (Nat.zero_le _) ha hb1
  obtain ⟨v2, s2, w2, i2⟩ := ho.view.slc ha (Nat.le_refl _) hb2
  simp only [List.drop_zero] at w1
  simp only [List.take_length] at w2
  obtain ⟨t1, H1, a1, o1, l1, f1, g1⟩ := appL (H := H) (t := .nilsl) (l := []) (.inl ⟨rfl, rfl⟩) w1 (by simp; omega)
  have hf1 : ∀ j, j < H.length → H1[j]? = H[j]? := fun j hj => f1 j hj (by simp [TV.idOf])
  have hx : elL.View (H1 ++ [.cells [.i .i64 x.1, .i .i64 x.2.1, .i .i64 x.2.2] false]) (.sl H1.length 0 3 true 1 (some 1)) [x] :=
    .inr (.inr ⟨H1.length, 0, some 1, _, false, rfl, by simp, getLast _ _, by simp [elL], by simp [elL, El.flat]⟩)
  have o1' : elL.Own (H1 ++ [.cells [.i .i64 x.1, .i .i64 x.2.1, .i .i64 x.2.2] false]) t1 (m.take at_) := by
    refine o1.mono fun id h => ?_
    rw [List.getElem?_append_left (o1.lt id h)]
  obtain ⟨t2, H2, a2, o2, l2, f2, g2⟩ := appL o1' hx (by simp; omega)
  have hn1 : ∀ j, j < H.length → t1.idOf ≠ some j := by
    intro j hj
    rcases g1 with rfl | g1
    · simp [TV.idOf]
    · intro he; have := g1 j he; omega
  have hold : ∀ j, j < H.length → H2[j]? = H[j]? := by
    intro j hj
    rw [f2 j (by simp; omega) (hn1 j hj), List.getElem?_append_left (by omega), hf1 j hj]
  have w2' : elL.View H2 v2 (m.drop at_) := w2.mono fun id hid => hold id (w2.lt id hid)
  obtain ⟨t3, H3, a3, o3, l3, f3, g3⟩ := appL o2 w2' (by simp; omega)
  have hn2 : ∀ j, j < H.length → t2.idOf ≠ some j := by
    intro j hj
    rcases g2 with rfl | g2
    · exact hn1 j hj
    · intro he; have := g2 j he; simp at this; omega
  have hl2 : H.length ≤ H2.length := by simp at l2; omega
  refine ⟨v1, v2, t1, H1, t2, H2, t3, H3, s1, a1, hf1, a2, s2, a3, o3, ?_, ?_⟩
  · intro j hj
    rw [f3 j (by omega) (hn2 j hj), hold j hj]
  · intro id hid
    rcases g3 with rfl | g3
    · rcases Nat.lt_or_ge id H.length with h | h
      · exact absurd hid (hn2 id h)
      · exact h
    · have := g3 id hid; omega

def Sor (m : List Line) : Prop := m.Pairwise fun a b => lt3 a b = true

theorem sr3_iff (a b : Line) : lt3 a b = true ↔ a.1 < b.1 ∨ a.1 = b.1 ∧ (a.2.1 < b.2.1 ∨ a.2.1 = b.2.1 ∧ a.2.2 < b.2.2) := by
  simp only [lt3, Bool.or_eq_true, Bool.and_eq_true, decide_eq_true_eq]
theorem sr3_trans {a b c : Line} (h1 : lt3 a b = true) (h2 : lt3 b c = true) : lt3 a c = true := by
  rw [sr3_iff] at h1 h2 ⊢; omega
theorem sr3_irr (a : Line) : lt3 a a = false := by
  cases h : lt3 a a with
  | false => rfl
  | true => rw [sr3_iff] at h; omega
theorem sr3_total {a b : Line} (h : lt3 a b = false) (hne : a ≠ b) : lt3 b a = true := by
  have h' : ¬ (lt3 a b = true) := by rw [h]; decide
  rw [sr3_iff] at h' ⊢
  have : ¬ (a.1 = b.1 ∧ a.2.1 = b.2.1 ∧ a.2.2 = b.2.2) := fun e => hne (by
    obtain ⟨a0, a1, a2⟩ := a; obtain ⟨b0, b1, b2⟩ := b
    simp only at e
    obtain ⟨rfl, rfl, rfl⟩ := e; rfl)
  omega

theorem sor_insert {m : List Line} {y : Line} {a : Nat} (hs : Sor m) (hy : y ∉ m) (h1 : ∀ (b : Nat) z, b < a → m[b]? = some z → lt3 z y = true) (h2 : ∀ z, m[a]? = some z → lt3 z y = false) : Sor (m.take a ++ [y] ++ m.drop a) := by
  have e := List.take_append_drop a m
  have hs' := hs
  unfold Sor at hs' ⊢
  rw [← e, List.pairwise_append] at hs'
  obtain ⟨p1, p2, p3⟩ := hs'
  have ht : ∀ z ∈ m.take a, lt3 z y = true := fun z hz => by
    obtain ⟨b, hb, hbz⟩ := List.getElem_of_mem hz
    have hb' : b < a := by rw [List.length_take] at hb; omega
    have : (m.take a)[b]? = some z := by rw [List.getElem?_eq_getElem hb, hbz]
    rw [List.getElem?_take_of_lt hb'] at this
    exact h1 b z hb' this
  have hd : ∀ z ∈ m.drop a, lt3 y z = true := by
    cases hdr : m.drop a with
    | nil => intro z hz; cases hz
    | cons w r =>
      have hw : m[a]? = some w := by
        have : (m.drop a)[0]? = some w := by rw [hdr]; rfl
        rwa [List.getElem?_drop] at this
      have hwm := List.mem_of_getElem? hw
      have hyw := sr3_total (h2 w hw) fun e => hy (by rw [← e]; exact hwm)
      rw [hdr] at p2
      intro z hz
      rcases List.mem_cons.1 hz with rfl | hz
      · exact hyw
      · exact sr3_trans hyw ((List.pairwise_cons.1 p2).1 z hz)
  rw [List.append_assoc, List.pairwise_append]
  refine ⟨p1, ?_, fun z hz w hw => ?_⟩
  · rw [List.singleton_append, List.pairwise_cons]; exact ⟨hd, p2⟩
  · rcases List.mem_append.1 hw with hw | hw
    · rw [List.mem_singleton.1 hw]; exact ht z hz
    · exact p3 z hz w hw

theorem l38_1_round {pg : Pg} (hF : Free pg) {H : Heap} {T P out i both k : TV} {kk a : Nat} {y z : Line} {m bl : List Line} (ho : elL.View H out m) (hb : elL.View H both bl) (hk : k = .i .i64 (kk : Int)) (hy : bl[kk]? = some y) (hz : m[a]? = some z) (ha : a < 1000) :
    den pg l38_1 [(0, T), (1, P), (5, out), (6, i), (8, both), (9, k), (12, .i .i64 (a : Int))] H = if lt3 z y = true then den pg l38_1 [(0, T), (1, P), (5, out), (6, i), (8, both), (9, k), (12, .i .i64 ((a + 1 : Nat) : Int))] H else some ⟨.exit 4, [(0, T), (1, P), (5, out), (6, i), (8, both), (9, k), (12, .i .i64 (a : Int)), (62, .b false)], H⟩ := by
  have hl := (List.getElem?_eq_some_iff.1 hz).1
  have e1 : ((a : Int) < (m.length : Int)) := by omega
  have e2 : wrapR .i64 ((a : Int) + 1) = .i .i64 ((a : Int) + 1) := gX82 (by omega)
  have hlen := ho.lenK
  subst hk
  obtain ⟨p, hp, hat, _⟩ := ixL (pg := pg) (R := den pg) ho hz
  obtain ⟨q, hq, hat2, _⟩ := ixL (pg := pg) (R := den pg) hb hy
  have hld := ldL (pg := pg) (R := den pg) hat
  have hld2 := ldL (pg := pg) (R := den pg) hat2
  obtain ⟨z0, z1, z2⟩ := z
  obtain ⟨y0, y1, y2⟩ := y
  have hc := call64 hF z0 z1 z2 y0 y1 y2 H
  simp only [lineTV] at hld hld2
  cases c : lt3 (z0, z1, z2) (y0, y1, y2) with
  | true =>
    rw [c] at hc
    rw [if_pos rfl, l38_1, den_loop]
    simp [l38_1, b38_0, gX0, gX1, gX2, gX3, gX4, gX5, gX6, gX7, gX8, gX9, gXa, gXb, gXc, gXd, gXe, gXf, gXg, gXh, gXi, gXj, gXk, gXl, gXm, gXn, gXo, gXp, gXq, gXr, gXs, gXt, gXu, gXv, gXw, gXx, k_mv, gXy, gXz, gX01, gX11, gX21, gX31, gX41, gX51, gX61, gX71, gX81, gX91, gXa1, gXb1, gXc1, gXd1, gXe1, gXf1, gXg1, gXh1, gXi1, gXj1, gXk1, gXl1, gXm1, gXn1, gXo1, gXp1, gXq1, gXr1, gXs1, gXt1, gXu1, k_mn, k_mx, gXv1, gXw1, gXx1, gXy1, gXz1, gX02, gX12, gX22, gX32, gX42, gX52, gX62, gX72, Dn.setLast, Dn.getLast, evalO, mapO, Dn.get, putE, keepE, TV.one, TV.isAgg, Dn.part, hlen, e1, e2, hp, hq, hld, hld2, hc]
  | false =>
    rw [c] at hc
    rw [if_neg (by decide), l38_1, den_loop]
    simp [l38_1, b38_0, gX0, gX1, gX2, gX3, gX4, gX5, gX6, gX7, gX8, gX9, gXa, gXb, gXc, gXd, gXe, gXf, gXg, gXh, gXi, gXj, gXk, gXl, gXm, gXn, gXo, gXp, gXq, gXr, gXs, gXt, gXu, gXv, gXw, gXx, k_mv, gXy, gXz, gX01, gX11, gX21, gX31, gX41, gX51, gX61, gX71, gX81, gX91, gXa1, gXb1, gXc1, gXd1, gXe1, gXf1, gXg1, gXh1, gXi1, gXj1, gXk1, gXl1, gXm1, gXn1, gXo1, gXp1, gXq1, gXr1, gXs1, gXt1, gXu1, k_mn, k_mx, gXv1, gXw1, gXx1, gXy1, gXz1, gX02, gX12, gX22, gX32, gX42, gX52, gX62, gX72, Dn.setLast, Dn.getLast, evalO, mapO, Dn.get, putE, keepE, TV.one, TV.isAgg, Dn.part, hlen, e1, e2, hp, hq, hld, hld2, hc]

theorem l38_1_all {pg : Pg} (hF : Free pg) {H : Heap} {T P out i both k : TV} {kk : Nat} {y : Line} {m bl : List Line} (ho : elL.View H out m) (hb : elL.View H both bl) (hk : k = .i .i64 (kk : Int)) (hy : bl[kk]? = some y) (hm : m.length < 1000) : ∀ (r a : Nat), a + r = m.length →
    ∃ a' : Nat, a' ≤ m.length ∧ den pg l38_1 [(0, T), (1, P), (5, out), (6, i), (8, both), (9, k), (12, .i .i64 (a : Int))] H = some ⟨.exit 4, [(0, T), (1, P), (5, out), (6, i), (8, both), (9, k), (12, .i .i64 (a' : Int)), (62, .b false)], H⟩ ∧ (∀ (b : Nat) z, a ≤ b → b < a' → m[b]? = some z → lt3 z y = true) ∧ ∀ z, m[a']? = some z → lt3 z y = false
  | 0, a, h => by
    have e1 : ¬ ((a : Int) < (m.length : Int)) := by omega
    have hlen := ho.lenK
    refine ⟨a, by omega, ?_, fun b z h1 h2 => by omega, fun z hz => by have := (List.getElem?_eq_some_iff.1 hz).1; omega⟩
    rw [l38_1, den_loop]
    simp [b38_0, gX0, gX1, gX2, gX3, gX4, gX5, gX6, gX7, gX8, gX9, gXa, gXb, gXc, gXd, gXe, gXf, gXg, gXh, gXi, gXj, gXk, gXl, gXm, gXn, gXo, gXp, gXq, gXr, gXs, gXt, gXu, gXv, gXw, gXx, k_mv, gXy, gXz, gX01, gX11, gX21, gX31, gX41, gX51, gX61, gX71, gX81, gX91, gXa1, gXb1, gXc1, gXd1, gXe1, gXf1, gXg1, gXh1, gXi1, gXj1, gXk1, gXl1, gXm1, gXn1, gXo1, gXp1, gXq1, gXr1, gXs1, gXt1, gXu1, k_mn, k_mx, gXv1, gXw1, gXx1, gXy1, gXz1, gX02, gX12, gX22, gX32, gX42, gX52, gX62, gX72, Dn.setLast, Dn.getLast, evalO, mapO, Dn.get, putE, keepE, TV.one, TV.isAgg, Dn.part, hlen, e1]
  | r + 1, a, h => by
    have ha : a < m.length := by omega
    have hr := l38_1_round (pg := pg) (T := T) (P := P) (i := i) hF ho hb hk hy (List.getElem?_eq_getElem ha) (by omega)
    by_cases c : lt3 m[a] y = true
    · rw [if_pos c] at hr
      obtain ⟨a', h1, h2, h3, h4⟩ := l38_1_all (T := T) (P := P) (i := i) hF ho hb hk hy hm r (a + 1) (by omega)
      refine ⟨a', h1, hr.trans h2, fun b z hb1 hb2 hz => ?_, h4⟩
      by_cases hba : b = a
      · subst hba
        rw [List.getElem?_eq_getElem ha] at hz
        rw [← Option.some.inj hz]; exact c
      · exact h3 b z (by omega) hb2 hz
    · rw [if_neg c] at hr
      refine ⟨a, by omega, hr, fun b z hb1 hb2 => by omega, fun z hz => ?_⟩
      rw [List.getElem?_eq_getElem ha] at hz
      rw [← Option.some.inj hz]; simpa using c

theorem l38_3_round {pg : Pg} (hF : Free pg) {n : Int} {l : List Line} (hc : chk n l = 0) {H : Heap} {T out i both : TV} {p kk : Nat} {y : Line} {m bl : List Line} (hp : p < 65536) (ho : elL.Own H out m) (hb : elL.View H both bl) (hk : kk < 2) (hy : bl[kk]? = some y) (hyj : y ∈ js l) (hm : m.length < 900) (hmj : ∀ z ∈ m, z ∈ js l) (hne : ∀ id, both.idOf = some id → out.idOf ≠ some id) :
    ∃ out' m' H', den pg l38_3 [(0, T), (1, .i .i64 (p : Int)), (5, out), (6, i), (8, both), (9, .i .i64 (kk : Int))] H = den pg l38_3 [(0, T), (1, .i .i64 (p : Int)), (5, out'), (6, i), (8, both), (9, .i .i64 ((kk + 1 : Nat) : Int))] H' ∧ elL.Own H' out' m' ∧ elL.View H' both bl ∧ (∀ z ∈ m', z ∈ js l) ∧ m'.length ≤ m.length + 1 ∧ H.length ≤ H'.length ∧ (∀ id, both.idOf = some id → out'.idOf ≠ some id) ∧ (∀ z, z ∈ m' ↔ z ∈ m ∨ z = y ∧ can p y = true) ∧ (y ∉ m → Sor m → Sor m') := by
  obtain ⟨hn1, hn2, hl, hf⟩ := chk_ok hc
  have e1 : ((kk : Int) < 2) := by omega
  have e2 : wrapR .i64 ((kk : Int) + 1) = .i .i64 ((kk : Int) + 1) := gX82 (by omega)
  have hhole : Hole3 y := Hole3.of hn2 (js_fits hf y hyj)
  obtain ⟨q, hq, hat, _⟩ := ixL (pg := pg) (R := den pg) hb hy
  have hld := ldL (pg := pg) (R := den pg) hat
  have c39 := fun H => Fn.call (fn39 hF hp hhole) (args := [.i .i64 (p : Int), lineTV y]) (ks := []) (fs := []) (cs := []) (H := H) (by simp [snapArgs, sn_i, snap_line _ _ 7])
  cases hcan : can p y with
  | false =>
    rw [hcan] at c39
    refine ⟨out, m, H, ?_, ho, hb, hmj, by omega, Nat.le_refl _, hne, fun z => by simp [hcan], fun _ h => h⟩
    rw [l38_3, den_loop]
    simp [l38_3, b38_2, gX0, gX1, gX2, gX3, gX4, gX5, gX6, gX7, gX8, gX9, gXa, gXb, gXc, gXd, gXe, gXf, gXg, gXh, gXi, gXj, gXk, gXl, gXm, gXn, gXo, gXp, gXq, gXr, gXs, gXt, gXu, gXv, gXw, gXx, k_mv, gXy, gXz, gX01, gX11, gX21, gX31, gX41, gX51, gX61, gX71, gX81, gX91, gXa1, gXb1, gXc1, gXd1, gXe1, gXf1, gXg1, gXh1, gXi1, gXj1, gXk1, gXl1, gXm1, gXn1, gXo1, gXp1, gXq1, gXr1, gXs1, gXt1, gXu1, k_mn, k_mx, gXv1, gXw1, gXx1, gXy1, gXz1, gX02, gX12, gX22, gX32, gX42, gX52, gX62, gX72, Dn.setLast, Dn.getLast, evalO, mapO, Dn.get, putE, keepE, TV.one, TV.isAgg, Dn.part, e1, e2, hq, hld, c39]
  | true =>
    rw [hcan] at c39
    obtain ⟨a, ha, hloop, hbef, haft⟩ := l38_1_all (pg := pg) (T := T) (P := .i .i64 (p : Int)) (i := i) hF ho.view hb rfl hy (by omega) m.length 0 (by omega)
    obtain ⟨v1, v2, t1, H1, t2, H2, t3, H3, s1, a1, hf1, a2, s2, a3, o3, hf3, hid3⟩ := insert2 (x := y) ho ha (by omega)
    have hb1 : elL.View H1 both bl := hb.mono fun id h => hf1 id (hb.lt id h)
    obtain ⟨q1, hq1, hat1, _⟩ := ixL (pg := pg) (R := den pg) hb1 hy
    have hld1 := ldL (pg := pg) (R := den pg) hat1
    have hbs := fun H => k_bslL (pg := pg) (R := den pg) y H
    have hl3 : H.length ≤ H3.length := by
      rcases Nat.lt_or_ge H3.length H.length with h | h
      · exfalso
        have := hf3 H3.length h
        rw [List.getElem?_eq_none (Nat.le_refl _)] at this
        rw [List.getElem?_eq_getElem h] at this
        cases this
      · exact h
    simp only [Int.natCast_zero] at hloop
    refine ⟨t3, m.take a ++ [y] ++ m.drop a, H3, ?_, o3, hb.mono fun id h => hf3 id (hb.lt id h), ?_, by simp; omega, hl3, ?_, ?_, fun hy0 hs => sor_insert hs hy0 (fun b z h => hbef b z (Nat.zero_le _) h) haft⟩
    · rw [l38_3, den_loop]
      simp [l38_3, b38_2, gX0, gX1, gX2, gX3, gX4, gX5, gX6, gX7, gX8, gX9, gXa, gXb, gXc, gXd, gXe, gXf, gXg, gXh, gXi, gXj, gXk, gXl, gXm, gXn, gXo, gXp, gXq, gXr, gXs, gXt, gXu, gXv, gXw, gXx, k_mv, gXy, gXz, gX01, gX11, gX21, gX31, gX41, gX51, gX61, gX71, gX81, gX91, gXa1, gXb1, gXc1, gXd1, gXe1, gXf1, gXg1, gXh1, gXi1, gXj1, gXk1, gXl1, gXm1, gXn1, gXo1, gXp1, gXq1, gXr1, gXs1, gXt1, gXu1, k_mn, k_mx, gXv1, gXw1, gXx1, gXy1, gXz1, gX02, gX12, gX22, gX32, gX42, gX52, gX62, gX72, Dn.setLast, Dn.getLast, evalO, mapO, Dn.get, putE, keepE, TV.one, TV.isAgg, Dn.part, e1, e2, hq, hld, c39, go_denK (c := l38_1) rfl, hloop, s1, a1, hq1, hld1, hbs, a2, s2, a3]
    · intro z hz
      simp only [List.append_assoc, List.mem_append, List.mem_singleton] at hz
      rcases hz with hz | rfl | hz
      · exact hmj z (List.mem_of_mem_take hz)
      · exact hyj
      · exact hmj z (List.mem_of_mem_drop hz)
    · intro id hid he
      have h1 := hb.lt id hid
      have h2 := hid3 id he
      omega
    · intro z
      simp only [List.append_assoc, List.mem_append, List.mem_singleton, hcan, and_true]
      rw [← List.take_append_drop a m, List.mem_append]
      simp only [List.take_append_drop]
      constructor
      · rintro (h | h | h)
        · exact .inl (.inl h)
        · exact .inr h
        · exact .inl (.inr h)
      · rintro ((h | h) | h)
        · exact .inl h
        · exact .inr (.inr h)
        · exact .inr (.inl h)

theorem k_bsl2L {pg : Pg} {R : Rec} (x y : Line) (H : Heap) : dkc pg R (.bsl false [.i .i64 0, .i .i64 0, .i .i64 0] true 2 [0, 1]) [.agg [.i .i64 x.1, .i .i64 x.2.1, .i .i64 x.2.2], .agg [.i .i64 y.1, .i .i64 y.2.1, .i .i64 y.2.2]] H = some (.sl H.length 0 3 true 2 (some 2), H ++ [.cells [.i .i64 x.1, .i .i64 x.2.1, .i .i64 x.2.2, .i .i64 y.1, .i .i64 y.2.1, .i .i64 y.2.2] false]) := by
  simp [dkc, dk, fillP, repl, put2, TV.cells, TV.one, List.replicate]

theorem l38_5_round {pg : Pg} (hF : Free pg) {n : Int} {l : List Line} (hc : chk n l = 0) {H : Heap} {out : TV} {p i : Nat} {x : Line} {m : List Line} (hp : p < 65536) (hi : l[i]? = some x) (ho : elL.Own H out m) (hm : m.length ≤ 2 * i) (hmj : ∀ z ∈ m, z ∈ js l) :
    ∃ out' m' H', den pg l38_5 [(0, LT true l), (1, .i .i64 (p : Int)), (5, out), (6, .i .i64 (i : Int))] H = den pg l38_5 [(0, LT true l), (1, .i .i64 (p : Int)), (5, out'), (6, .i .i64 ((i + 1 : Nat) : Int))] H' ∧ elL.Own H' out' m' ∧ (∀ z ∈ m', z ∈ js l) ∧ m'.length ≤ 2 * (i + 1) ∧ (∀ z, z ∈ m' ↔ (z ∈ m ∨ z = x ∧ can p x = true) ∨ z = rev x ∧ can p (rev x) = true) ∧ (x ∉ m → rev x ∉ m → rev x ≠ x → Sor m → Sor m') := by
  obtain ⟨hn1, hn2, hl, hf⟩ := chk_ok hc
  have hil := (List.getElem?_eq_some_iff.1 hi).1
  have e1 : ((i : Int) < (l.length : Int)) := by omega
  have e2 : wrapR .i64 ((i : Int) + 1) = .i .i64 ((i : Int) + 1) := gX82 (by omega)
  have hlen := LT_len true l
  have hV : elL.View H (LT true l) l := by rw [LT_lt]; exact El.lt_view _ _ _
  obtain ⟨q, hq, hat, _⟩ := ixL (pg := pg) (R := den pg) hV hi
  have hld := ldL (pg := pg) (R := den pg) hat
  obtain ⟨j0, j1⟩ := js_even l i x hi
  have hx0 := List.mem_of_getElem? j0
  have hx1 := List.mem_of_getElem? j1
  have hbs := fun H => k_bsl2L (pg := pg) (R := den pg) x (rev x) H
  let HA : Heap := H ++ [cl x] ++ [.cells [.i .i64 x.1, .i .i64 x.2.1, .i .i64 x.2.2, .i .i64 (rev x).1, .i .i64 (rev x).2.1, .i .i64 (rev x).2.2] false]
  have hboth : elL.View HA (.sl (H.length + 1) 0 3 true 2 (some 2)) [x, rev x] := by
    refine .inr (.inr ⟨H.length + 1, 0, some 2, [.i .i64 x.1, .i .i64 x.2.1, .i .i64 x.2.2, .i .i64 (rev x).1, .i .i64 (rev x).2.1, .i .i64 (rev x).2.2], false, rfl, by simp, ?_, by simp [elL], by simp [elL, El.flat]⟩)
    have := getLast (H ++ [cl x]) (.cells [.i .i64 x.1, .i .i64 x.2.1, .i .i64 x.2.2, .i .i64 (rev x).1, .i .i64 (rev x).2.1, .i .i64 (rev x).2.2] false)
    rw [List.length_append] at this
    exact this
  have hoA : elL.Own HA out m := ho.mono fun id h => by
    have := ho.lt id h
    show (H ++ [cl x] ++ _)[id]? = _
    rw [List.append_assoc, List.getElem?_append_left this]
  have hneA : ∀ id, (TV.sl (H.length + 1) 0 3 true 2 (some 2)).idOf = some id → out.idOf ≠ some id := by
    intro id h he
    cases h
    have := ho.lt _ he
    omega
  obtain ⟨out1, m1, H1, r1, o1, b1, mj1, ml1, hl1, hne1, mi1, so1⟩ := l38_3_round (T := LT true l) (i := .i .i64 (i : Int)) hF hc hp hoA hboth (kk := 0) (by omega) rfl hx0 (by omega) hmj hneA
  obtain ⟨out2, m2, H2, r2, o2, b2, mj2, ml2, hl2, hne2, mi2, so2⟩ := l38_3_round (T := LT true l) (i := .i .i64 (i : Int)) hF hc hp o1 b1 (kk := 1) (by omega) rfl hx1 (by omega) mj1 hne1
  have r3 : den pg l38_3 [(0, LT true l), (1, .i .i64 (p : Int)), (5, out2), (6, .i .i64 (i : Int)), (8, .sl (H.length + 1) 0 3 true 2 (some 2)), (9, .i .i64 2)] H2 = some ⟨.exit 2, [(0, LT true l), (1, .i .i64 (p : Int)), (5, out2), (6, .i .i64 (i : Int)), (8, .sl (H.length + 1) 0 3 true 2 (some 2)), (9, .i .i64 2), (34, .b false)], H2⟩ := by
    rw [l38_3, den_loop]
    simp [b38_2, gX0, gX1, gX2, gX3, gX4, gX5, gX6, gX7, gX8, gX9, gXa, gXb, gXc, gXd, gXe, gXf, gXg, gXh, gXi, gXj, gXk, gXl, gXm, gXn, gXo, gXp, gXq, gXr, gXs, gXt, gXu, gXv, gXw, gXx, k_mv, gXy, gXz, gX01, gX11, gX21, gX31, gX41, gX51, gX61, gX71, gX81, gX91, gXa1, gXb1, gXc1, gXd1, gXe1, gXf1, gXg1, gXh1, gXi1, gXj1, gXk1, gXl1, gXm1, gXn1, gXo1, gXp1, gXq1, gXr1, gXs1, gXt1, gXu1, k_mn, k_mx, gXv1, gXw1, gXx1, gXy1, gXz1, gX02, gX12, gX22, gX32, gX42, gX52, gX62, gX72, Dn.setLast, Dn.getLast, evalO, mapO, Dn.get, putE, keepE, TV.one, TV.isAgg, Dn.part]
  have hr := r1.trans (r2.trans r3)
  refine ⟨out2, m2, H2, ?_, o2, mj2, by omega, fun z => by rw [mi2, mi1], fun h1 h2 h3 hs => so2 (fun hm => by
    rcases (mi1 (rev x)).1 hm with hm | hm
    · exact h2 hm
    · exact h3 hm.1) (so1 h1 hs)⟩
  rw [l38_5, den_loop]
  simp only [HA, cl, Int.natCast_zero, List.append_assoc, List.cons_append, List.nil_append] at hr
  simp only [rev] at hbs hr
  simp [l38_5, b38_4, gX0, gX1, gX2, gX3, gX4, gX5, gX6, gX7, gX8, gX9, gXa, gXb, gXc, gXd, gXe, gXf, gXg, gXh, gXi, gXj, gXk, gXl, gXm, gXn, gXo, gXp, gXq, gXr, gXs, gXt, gXu, gXv, gXw, gXx, k_mv, gXy, gXz, gX01, gX11, gX21, gX31, gX41, gX51, gX61, gX71, gX81, gX91, gXa1, gXb1, gXc1, gXd1, gXe1, gXf1, gXg1, gXh1, gXi1, gXj1, gXk1, gXl1, gXm1, gXn1, gXo1, gXp1, gXq1, gXr1, gXs1, gXt1, gXu1, k_mn, k_mx, gXv1, gXw1, gXx1, gXy1, gXz1, gX02, gX12, gX22, gX32, gX42, gX52, gX62, gX72, Dn.setLast, Dn.getLast, evalO, mapO, Dn.get, putE, keepE, TV.one, TV.isAgg, Dn.part, hlen, e1, e2, hq, hld, lineTV, put2, fillP, TV.cells, hbs, go_denK (c := l38_3) rfl, hr]


theorem js_take {l : List Line} {i : Nat} {x : Line} (h : l[i]? = some x) : js (l.take (i + 1)) = js (l.take i) ++ [x, rev x] := by
  have happ : ∀ a b : List Line, js (a ++ b) = js a ++ js b := by
    intro a b
    induction a with
    | nil => rfl
    | cons y a ih => simp [js, ih]
  rw [List.take_add_one, h, happ]
  rfl

theorem l38_5_all {pg : Pg} (hF : Free pg) {n : Int} {l : List Line} (hc : chk n l = 0) {p : Nat} (hp : p < 65536) : ∀ (k i : Nat) (H : Heap) (out : TV) (m : List Line), i + k = l.length → elL.Own H out m → m.length ≤ 2 * i → (∀ z ∈ m, z ∈ js l) → (∀ z, z ∈ m ↔ z ∈ js (l.take i) ∧ can p z = true) →
    ∃ out' m' H' e, den pg l38_5 [(0, LT true l), (1, .i .i64 (p : Int)), (5, out), (6, .i .i64 (i : Int))] H = some ⟨.exit 0, e, H'⟩ ∧ get e 5 = some out' ∧ elL.Own H' out' m' ∧ (∀ z, z ∈ m' ↔ z ∈ js l ∧ can p z = true) ∧ m'.length ≤ 80 ∧ ((js l).Nodup → Sor m → Sor m')
  | 0, i, H, out, m, h, ho, hm, hmj, hmi => by
    obtain ⟨_, _, hl, _⟩ := chk_ok hc
    have e1 : ¬ ((i : Int) < (l.length : Int)) := by omega
    have hlen := LT_len true l
    refine ⟨out, m, H, [(0, LT true l), (1, .i .i64 (p : Int)), (5, out), (6, .i .i64 (i : Int)), (17, .b false)], ?_, rfl, ho, ?_, by omega, fun _ h => h⟩
    · rw [l38_5, den_loop]
      simp [b38_4, gX0, gX1, gX2, gX3, gX4, gX5, gX6, gX7, gX8, gX9, gXa, gXb, gXc, gXd, gXe, gXf, gXg, gXh, gXi, gXj, gXk, gXl, gXm, gXn, gXo, gXp, gXq, gXr, gXs, gXt, gXu, gXv, gXw, gXx, k_mv, gXy, gXz, gX01, gX11, gX21, gX31, gX41, gX51, gX61, gX71, gX81, gX91, gXa1, gXb1, gXc1, gXd1, gXe1, gXf1, gXg1, gXh1, gXi1, gXj1, gXk1, gXl1, gXm1, gXn1, gXo1, gXp1, gXq1, gXr1, gXs1, gXt1, gXu1, k_mn, k_mx, gXv1, gXw1, gXx1, gXy1, gXz1, gX02, gX12, gX22, gX32, gX42, gX52, gX62, gX72, Dn.setLast, Dn.getLast, evalO, mapO, Dn.get, putE, keepE, TV.one, TV.isAgg, Dn.part, hlen, e1]
    · intro z; rw [hmi, List.take_of_length_le (by omega)]
  | k + 1, i, H, out, m, h, ho, hm, hmj, hmi => by
    have hx : l[i]? = some l[i] := List.getElem?_eq_getElem (by omega : i < l.length)
    obtain ⟨out1, m1, H1, r1, o1, mj1, ml1, mi1, so1⟩ := l38_5_round (pg := pg) hF hc hp hx ho hm hmj
    obtain ⟨out', m', H', e, r2, g1, g2, g3, g4, g5⟩ := l38_5_all hF hc hp k (i + 1) H1 out1 m1 (by omega) o1 ml1 mj1 (by
      intro z
      rw [mi1, hmi, js_take hx, List.mem_append]
      simp only [List.mem_cons, List.not_mem_nil, or_false]
      constructor
      · rintro ((⟨h1, h2⟩ | ⟨rfl, h2⟩) | ⟨rfl, h2⟩)
        · exact ⟨.inl h1, h2⟩
        · exact ⟨.inr (.inl rfl), h2⟩
        · exact ⟨.inr (.inr rfl), h2⟩
      · rintro ⟨h1 | h1 | h1, h2⟩
        · exact .inl (.inl ⟨h1, h2⟩)
        · subst h1; exact .inl (.inr ⟨rfl, h2⟩)
        · subst h1; exact .inr ⟨rfl, h2⟩)
    refine ⟨out', m', H', e, r1.trans r2, g1, g2, g3, g4, fun hnd hs => g5 hnd (so1 (fun hm => ?_) (fun hm => ?_) ?_ hs)⟩
    all_goals
      have hdec : js l = js (l.take i) ++ ([l[i], rev l[i]] ++ js (l.drop (i + 1))) := by
        have happ : ∀ a b : List Line, js (a ++ b) = js a ++ js b := by
          intro a b
          induction a with
          | nil => rfl
          | cons y a ih => simp [js, ih]
        rw [← List.append_assoc, ← js_take hx, ← happ, List.take_append_drop]
      rw [hdec, List.nodup_append] at hnd
    · exact hnd.2.2 _ ((hmi _).1 hm).1 _ (by simp) rfl
    · exact hnd.2.2 _ ((hmi _).1 hm).1 _ (by simp) rfl
    · have h2 := hnd.2.1
      simp only [List.cons_append, List.nil_append, List.nodup_cons, List.mem_cons, not_or] at h2
      exact fun e => h2.1.1 e.symm

theorem fn38i {pg : Pg} (hF : Free pg) {n : Int} {l : List Line} (hc : chk n l = 0) {p : Nat} (hp : p < 65536) : ∃ J, (∀ z, z ∈ J ↔ z ∈ js l ∧ can p z = true) ∧ J.length ≤ 80 ∧ ((js l).Nodup → Sor J) ∧ Fn pg 38 [LT true l, .i .i64 (p : Int)] (LT false J) := by
  obtain ⟨out, J, H', e, h1, h2, ho, hj, hlen, hso⟩ := l38_5_all (pg := pg) hF hc hp l.length 0 [] .nilsl [] (by omega) (.inl ⟨rfl, rfl⟩) (by simp) (by simp) (by intro z; simp [js])
  simp only [Int.natCast_zero] at h1
  refine ⟨J, hj, hlen, fun h => hso h List.Pairwise.nil, ?_⟩
  refine .of_go (x := .ret) (e := [(4, out)]) (H' := H') (vs := [out]) (hF.S _ _ (by decide)) (d := d38) (by rw [hF.F]; rfl) rfl ?_ (.inl rfl) rfl (by rw [LT_lt]; exact ho.fin elL_flat)
  simp [d38, c38, zipE, gX0, gX1, gX2, gX3, gX4, gX5, gX6, gX7, gX8, gX9, gXa, gXb, gXc, gXd, gXe, gXf, gXg, gXh, gXi, gXj, gXk, gXl, gXm, gXn, gXo, gXp, gXq, gXr, gXs, gXt, gXu, gXv, gXw, gXx, k_mv, gXy, gXz, gX01, gX11, gX21, gX31, gX41, gX51, gX61, gX71, gX81, gX91, gXa1, gXb1, gXc1, gXd1, gXe1, gXf1, gXg1, gXh1, gXi1, gXj1, gXk1, gXl1, gXm1, gXn1, gXo1, gXp1, gXq1, gXr1, gXs1, gXt1, gXu1, k_mn, k_mx, gXv1, gXw1, gXx1, gXy1, gXz1, gX02, gX12, gX22, gX32, gX42, gX52, gX62, gX72, Dn.setLast, Dn.getLast, evalO, mapO, Dn.get, putE, keepE, TV.one, TV.isAgg, Dn.part, go_denK (c := l38_5) rfl, h1, h2]

end Go.Proofs.Try.Dn

/-
  PegPlays: the statement's rounds, and the whole run.
-/

namespace Go.Proofs.Try.Dn
open Go.Dn

end Go.Proofs.Try.Dn

