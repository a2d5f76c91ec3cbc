/-
  Jumps: bits of positions; after and Jump.
-/
import Derived.Test.YtegihfgibonhpaaPd
set_option linter.unusedSimpArgs false
set_option linter.unusedVariables false

namespace Go.Proofs.Try.Dn
open Go.Dn

def nd (m k : Nat) : Nat := (BitVec.ofNat 64 m &&& ~~~BitVec.ofNat 64 k).toNat

theorem nd_le (m k : Nat) : nd m k ≤ m := by
  unfold nd
  rw [BitVec.toNat_and]
  refine Nat.le_trans Nat.and_le_left ?_
  simp
  exact Nat.mod_le _ _

theorem ofInt_nat (m : Nat) : BitVec.ofInt 64 (m : Int) = BitVec.ofNat 64 m := by simp

theorem and_eq {m k : Nat} (hm : m < 65536) (hk : k < 65536) : binI .and (.i .i64 (m : Int)) (.i .i64 (k : Int)) = some (.i .i64 ((m &&& k : Nat) : Int)) := by
  have h1 : (m &&& k) ≤ m := Nat.and_le_left
  have : ((BitVec.ofInt 64 (m : Int)) &&& (BitVec.ofInt 64 (k : Int))).toNat = m &&& k := by
    rw [ofInt_nat, ofInt_nat, BitVec.toNat_and]
    simp only [BitVec.toNat_ofNat]
    rw [Nat.mod_eq_of_lt (by omega : m < 2 ^ 64), Nat.mod_eq_of_lt (by omega : k < 2 ^ 64)]
  rw [show binI .and (.i .i64 (m : Int)) (.i .i64 (k : Int)) = some (wrapR .i64 ((BitVec.ofInt 64 (m : Int)) &&& (BitVec.ofInt 64 (k : Int))).toNat) from rfl, this, gX82 (by omega)]

theorem or_eq {m k : Nat} (hm : m < 65536) (hk : k < 65536) : binI .or (.i .i64 (m : Int)) (.i .i64 (k : Int)) = some (.i .i64 ((m ||| k : Nat) : Int)) := by
  have h1 : (m ||| k) < 2 ^ 16 := Nat.or_lt_two_pow hm hk
  have : ((BitVec.ofInt 64 (m : Int)) ||| (BitVec.ofInt 64 (k : Int))).toNat = m ||| k := by
    rw [ofInt_nat, ofInt_nat, BitVec.toNat_or]
    simp only [BitVec.toNat_ofNat]
    rw [Nat.mod_eq_of_lt (by omega : m < 2 ^ 64), Nat.mod_eq_of_lt (by omega : k < 2 ^ 64)]
  rw [show binI .or (.i .i64 (m : Int)) (.i .i64 (k : Int)) = some (wrapR .i64 ((BitVec.ofInt 64 (m : Int)) ||| (BitVec.ofInt 64 (k : Int))).toNat) from rfl, this, gX82 (by omega)]

theorem nd_eq {m k : Nat} (hm : m < 65536) : binI .andNot (.i .i64 (m : Int)) (.i .i64 (k : Int)) = some (.i .i64 ((nd m k : Nat) : Int)) := by
  have h1 := nd_le m k
  rw [show binI .andNot (.i .i64 (m : Int)) (.i .i64 (k : Int)) = some (wrapR .i64 ((BitVec.ofInt 64 (m : Int)) &&& ~~~(BitVec.ofInt 64 (k : Int))).toNat) from rfl, ofInt_nat, ofInt_nat, show (BitVec.ofNat 64 m &&& ~~~BitVec.ofNat 64 k).toNat = nd m k from rfl, gX82 (by omega)]

theorem bt_test (m i : Nat) : bt (m : Int) i = if m.testBit i then 1 else 0 := by
  have h : bt (m : Int) i = ((m / 2 ^ i % 2 : Nat) : Int) := by
    unfold bt
    simp
  rw [h, Nat.testBit_eq_decide_div_mod_eq]
  split
  · rename_i h; simp at h; rw [h]; rfl
  · rename_i h; simp at h; rw [h]; rfl

theorem two_lt {a : Nat} (h : a < 16) : 2 ^ a < 65536 := by
  have : ∀ k : Nat, k < 16 → 2 ^ k < 65536 := by decide
  exact this a h

theorem and_two {m a b : Nat} : m &&& (2 ^ a ||| 2 ^ b) = 2 ^ a ||| 2 ^ b ↔ m.testBit a = true ∧ m.testBit b = true := by
  constructor
  · intro h
    have h1 := congrArg (·.testBit a) h
    have h2 := congrArg (·.testBit b) h
    simp [Nat.testBit_and, Nat.testBit_or, Nat.testBit_two_pow_self] at h1 h2
    exact ⟨h1, h2⟩
  · intro ⟨h1, h2⟩
    apply Nat.eq_of_testBit_eq
    intro i
    rw [Nat.testBit_and]
    by_cases hi : (2 ^ a ||| 2 ^ b).testBit i = true
    · rw [hi, Bool.and_true]
      rw [Nat.testBit_or, Nat.testBit_two_pow, Nat.testBit_two_pow] at hi
      simp at hi
      rcases hi with rfl | rfl <;> assumption
    · simp only [Bool.not_eq_true] at hi
      rw [hi, Bool.and_false]

theorem and_one_bit {m c : Nat} : m &&& 2 ^ c = 0 ↔ m.testBit c = false := by
  constructor
  · intro h
    have h1 := congrArg (·.testBit c) h
    simpa [Nat.testBit_and, Nat.testBit_two_pow_self] using h1
  · intro h
    apply Nat.eq_of_testBit_eq
    intro i
    rw [Nat.testBit_and, Nat.testBit_two_pow]
    by_cases hi : c = i
    · subst hi; simp [h]
    · simp [hi]

def can (m : Nat) (j : Line) : Bool := m.testBit j.1.toNat && m.testBit j.2.1.toNat && !m.testBit j.2.2.toNat
def leap (m : Nat) (j : Line) : Nat := nd m (2 ^ j.1.toNat ||| 2 ^ j.2.1.toNat) ||| 2 ^ j.2.2.toNat

theorem leap_lt {m : Nat} {j : Line} (hm : m < 65536) (hj : j.2.2.toNat < 16) : leap m j < 65536 := by
  have h1 := nd_le m (2 ^ j.1.toNat ||| 2 ^ j.2.1.toNat)
  exact Nat.or_lt_two_pow (n := 16) (by omega) (two_lt hj)

theorem shl_eq {k : IntKind} {a : Int} (h0 : 0 ≤ a) (h1 : a < 16) : binI .shl (.i .i64 1) (.i k a) = some (.i .i64 ((2 ^ a.toNat : Nat) : Int)) := by
  have h2 : ¬ a < 0 := by omega
  have h3 : min a.toNat 64 = a.toNat := by omega
  have h4 := two_lt (a := a.toNat) (by omega)
  have h5 : wrapR .i64 ((2 : Int) ^ a.toNat) = .i .i64 ((2 ^ a.toNat : Nat) : Int) := by
    rw [show ((2 : Int) ^ a.toNat) = ((2 ^ a.toNat : Nat) : Int) by simp]
    generalize 2 ^ a.toNat = z at h4 ⊢
    exact gX82 (by omega)
  simp only [binI, if_neg h2, IntKind.bits, h3, Int.one_mul, h5]

theorem u64_hole {a : Int} (h0 : 0 ≤ a) (h1 : a < 16) : wrapR .u64 a = .i .u64 a := by
  unfold wrapR; simp [IntKind.wrap, IntKind.signed, IntKind.bits]; omega

def Hole3 (j : Line) : Prop := 0 ≤ j.1 ∧ j.1 < 16 ∧ 0 ≤ j.2.1 ∧ j.2.1 < 16 ∧ 0 ≤ j.2.2 ∧ j.2.2 < 16

theorem Hole3.of {n : Int} {j : Line} (hn : n ≤ 16) (h : FitsJ n j) : Hole3 j := by
  unfold FitsJ at h; unfold Hole3; omega

theorem fn65 {pg : Pg} (hF : Free pg) {m : Nat} {j : Line} (hm : m < 65536) (hj : Hole3 j) : Fn pg 65 [lineTV j, .i .i64 (m : Int)] (.tup [.i .i64 (if can m j then (leap m j : Int) else 0), .b (can m j)]) := by
  obtain ⟨a, b, c⟩ := j
  obtain ⟨f1, f2, f3, f4, f5, f6⟩ := hj
  simp only at f1 f2 f3 f4 f5 f6
  have ta := two_lt (a := a.toNat) (by omega)
  have tb := two_lt (a := b.toNat) (by omega)
  have tc := two_lt (a := c.toNat) (by omega)
  have tab : 2 ^ a.toNat ||| 2 ^ b.toNat < 65536 := Nat.or_lt_two_pow (n := 16) ta tb
  have hor := or_eq ta tb
  have hand := and_eq hm tab
  have hand2 := and_eq hm tc
  have hnd := nd_eq (k := 2 ^ a.toNat ||| 2 ^ b.toNat) hm
  have hor2 := or_eq (m := nd m (2 ^ a.toNat ||| 2 ^ b.toNat)) (k := 2 ^ c.toNat) (by have := nd_le m (2 ^ a.toNat ||| 2 ^ b.toNat); omega) tc
  have ha := shl_eq (k := .u64) f1 f2
  have hb := shl_eq (k := .u64) f3 f4
  have hcc := shl_eq (k := .u64) f5 f6
  have ua := u64_hole f1 f2
  have ub := u64_hole f3 f4
  have uc := u64_hole f5 f6
  generalize hA : 2 ^ a.toNat ||| 2 ^ b.toNat = A at *
  generalize hC : 2 ^ c.toNat = C at *
  generalize hTA : 2 ^ a.toNat = TA at *
  generalize hTB : 2 ^ b.toNat = TB at *
  by_cases h1 : m &&& A = A
  · by_cases h2 : m &&& C = 0
    · have hcan : can m (a, b, c) = true := by
        have k1 := (and_two (m := m) (a := a.toNat) (b := b.toNat)).1 (by rw [hTA, hTB, hA]; exact h1)
        have k2 := (and_one_bit (m := m) (c := c.toNat)).1 (by rw [hC]; exact h2)
        simp [can, k1, k2]
      have hl : leap m (a, b, c) = nd m A ||| C := by simp only [leap, hTA, hTB, hA, hC]
      rw [hcan]
      have b1 : (((m &&& A : Nat) : Int) != ((A : Nat) : Int)) = false := by simp [h1]
      have b2 : (((m &&& C : Nat) : Int) != 0) = false := by simp [h2]
      refine .of2 (x := .ret) (e := [(4, .i .i64 ((nd m A ||| C : Nat) : Int)), (5, .b true)]) (H' := [.cells [.i .i64 a, .i .i64 b, .i .i64 c] true]) (hF.S _ _ (by decide)) (d := d65) (by rw [hF.F]; rfl) rfl ?_ (.inl rfl) (by simp [d65, mapO, resRun, Dn.get, hl]) (by simp) (by simp [sn_i, sn_b, gX92, gXa2, gXb2, gXc2, gXd2, gXe2, gXf2, gXg2, gXh2, gXi2, gXj2, gXk2, mapO, elems])
      simp [d65, c65, zipE, gX0, gX1, gX2, gX3, gX4, gX5, gX6, gX7, gX8, gX9, gXa, gXb, gXc, gXd, gXe, gXf, gXg, gXh, gXi, gXj, gXk, gXl, gXm, gXn, gXo, gXp, gXq, gXr, gXs, gXt, gXu, gXv, gXw, gXx, k_mv, gXy, gXz, gX01, gX11, gX21, gX31, gX41, gX51, gX61, gX71, gX81, gX91, gXa1, gXb1, gXc1, gXd1, gXe1, gXf1, gXg1, gXh1, gXi1, gXj1, gXk1, gXl1, gXm1, gXn1, gXo1, gXp1, gXq1, gXr1, gXs1, gXt1, gXu1, k_mn, k_mx, gXv1, gXw1, gXx1, gXy1, gXz1, gX02, gX12, gX22, gX32, gX42, gX52, gX62, gX72, Dn.setLast, Dn.getLast, evalO, mapO, Dn.get, putE, keepE, TV.one, TV.isAgg, Dn.part, lineTV, ua, ub, uc, ha, hb, hcc, hor, hand, hand2, hnd, hor2, h1, h2]
    · have hcan : can m (a, b, c) = false := by
        have k2 := mt (and_one_bit (m := m) (c := c.toNat)).2 (by rw [hC]; exact h2)
        simp [can] at k2 ⊢
        intro _ _; exact k2
      rw [hcan]
      refine .of2 (x := .ret) (e := [(4, .i .i64 0), (5, .b false)]) (H' := [.cells [.i .i64 a, .i .i64 b, .i .i64 c] true]) (hF.S _ _ (by decide)) (d := d65) (by rw [hF.F]; rfl) rfl ?_ (.inl rfl) (by simp [d65, mapO, resRun, Dn.get]) (by simp) (by simp [sn_i, sn_b, gX92, gXa2, gXb2, gXc2, gXd2, gXe2, gXf2, gXg2, gXh2, gXi2, gXj2, gXk2, mapO, elems])
      have b2 : (((m &&& C : Nat) : Int) != 0) = true := by simp; omega
      simp [d65, c65, zipE, gX0, gX1, gX2, gX3, gX4, gX5, gX6, gX7, gX8, gX9, gXa, gXb, gXc, gXd, gXe, gXf, gXg, gXh, gXi, gXj, gXk, gXl, gXm, gXn, gXo, gXp, gXq, gXr, gXs, gXt, gXu, gXv, gXw, gXx, k_mv, gXy, gXz, gX01, gX11, gX21, gX31, gX41, gX51, gX61, gX71, gX81, gX91, gXa1, gXb1, gXc1, gXd1, gXe1, gXf1, gXg1, gXh1, gXi1, gXj1, gXk1, gXl1, gXm1, gXn1, gXo1, gXp1, gXq1, gXr1, gXs1, gXt1, gXu1, k_mn, k_mx, gXv1, gXw1, gXx1, gXy1, gXz1, gX02, gX12, gX22, gX32, gX42, gX52, gX62, gX72, Dn.setLast, Dn.getLast, evalO, mapO, Dn.get, putE, keepE, TV.one, TV.isAgg, Dn.part, lineTV, ua, ub, uc, ha, hb, hcc, hor, hand, hand2, hnd, hor2, h1, b2]
  · have hcan : can m (a, b, c) = false := by
      have k2 := mt (and_two (m := m) (a := a.toNat) (b := b.toNat)).2 (by rw [hTA, hTB, hA]; exact h1)
      simp [can] at k2 ⊢
      intro h3 h4
      rw [k2 h3] at h4; cases h4
    rw [hcan]
    have b1 : (((m &&& A : Nat) : Int) != ((A : Nat) : Int)) = true := by simp; omega
    refine .of2 (x := .ret) (e := [(4, .i .i64 0), (5, .b false)]) (H' := [.cells [.i .i64 a, .i .i64 b, .i .i64 c] true]) (hF.S _ _ (by decide)) (d := d65) (by rw [hF.F]; rfl) rfl ?_ (.inl rfl) (by simp [d65, mapO, resRun, Dn.get]) (by simp) (by simp [sn_i, sn_b, gX92, gXa2, gXb2, gXc2, gXd2, gXe2, gXf2, gXg2, gXh2, gXi2, gXj2, gXk2, mapO, elems])
    simp [d65, c65, zipE, gX0, gX1, gX2, gX3, gX4, gX5, gX6, gX7, gX8, gX9, gXa, gXb, gXc, gXd, gXe, gXf, gXg, gXh, gXi, gXj, gXk, gXl, gXm, gXn, gXo, gXp, gXq, gXr, gXs, gXt, gXu, gXv, gXw, gXx, k_mv, gXy, gXz, gX01, gX11, gX21, gX31, gX41, gX51, gX61, gX71, gX81, gX91, gXa1, gXb1, gXc1, gXd1, gXe1, gXf1, gXg1, gXh1, gXi1, gXj1, gXk1, gXl1, gXm1, gXn1, gXo1, gXp1, gXq1, gXr1, gXs1, gXt1, gXu1, k_mn, k_mx, gXv1, gXw1, gXx1, gXy1, gXz1, gX02, gX12, gX22, gX32, gX42, gX52, gX62, gX72, Dn.setLast, Dn.getLast, evalO, mapO, Dn.get, putE, keepE, TV.one, TV.isAgg, Dn.part, lineTV, ua, ub, uc, ha, hb, hcc, hor, hand, hand2, hnd, hor2, b1]


end Go.Proofs.Try.Dn

/-
  Jumps: whether a jump is one of a line's, and the reference's play.
-/

namespace Go.Proofs.Try.Dn
open Go.Dn

def same (x y : Line) : Bool := decide (x = y)

theorem ld_cl {pg : Pg} {R : Rec} {H : Heap} {id : Nat} {x : Line} (h : H[id]? = some (cl x)) : dkc pg R (.ld 3 true) [.ref id 0] H = some (.agg [.i .i64 x.1, .i .i64 x.2.1, .i .i64 x.2.2], H) ∧
    dkc pg R (.ld 1 false) [.ref id 0] H = some (.i .i64 x.1, H) ∧ dkc pg R (.ld 1 false) [.ref id 1] H = some (.i .i64 x.2.1, H) ∧ dkc pg R (.ld 1 false) [.ref id 2] H = some (.i .i64 x.2.2, H) := by
  refine ⟨?_, ?_, ?_, ?_⟩ <;> rw [gXb1, h] <;> rfl

theorem LW_snap0 (b : Bool) (l : List Line) (H : Heap) : snap .borrow H 9 (LT b l) = some (LT true l) := snap_LT b H l

end Go.Proofs.Try.Dn

/-
  Jumps: the program's play.
-/

namespace Go.Proofs.Try.Dn
open Go.Dn

end Go.Proofs.Try.Dn

/-
  Jumps: the reference's list of jumps consists of a board's jumps.
-/

namespace Go.Proofs.Try.Dn
open Go.Dn

def Sor (m : List Line) : Prop := m.Pairwise fun a b => lt3 a b = true

theorem sr3_iff (a b : Line) : lt3 a b = true ↔ a.1 < b.1 ∨ a.1 = b.1 ∧ (a.2.1 < b.2.1 ∨ a.2.1 = b.2.1 ∧ a.2.2 < b.2.2) := by
  simp only [lt3, Bool.or_eq_true, Bool.and_eq_true, decide_eq_true_eq]
theorem sr3_trans {a b c : Line} (h1 : lt3 a b = true) (h2 : lt3 b c = true) : lt3 a c = true := by
  rw [sr3_iff] at h1 h2 ⊢; omega
theorem sr3_irr (a : Line) : lt3 a a = false := by
  cases h : lt3 a a with
  | false => rfl
  | true => rw [sr3_iff] at h; omega
theorem sr3_total {a b : Line} (h : lt3 a b = false) (hne : a ≠ b) : lt3 b a = true := by
  have h' : ¬ (lt3 a b = true) := by rw [h]; decide
  rw [sr3_iff] at h' ⊢
  have : ¬ (a.1 = b.1 ∧ a.2.1 = b.2.1 ∧ a.2.2 = b.2.2) := fun e => hne (by
    obtain ⟨a0, a1, a2⟩ := a; obtain ⟨b0, b1, b2⟩ := b
    simp only at e
    obtain ⟨rfl, rfl, rfl⟩ := e; rfl)
  omega

end Go.Proofs.Try.Dn

/-
  PegPlays: the statement's rounds, and the whole run.
-/

namespace Go.Proofs.Try.Dn
open Go.Dn

end Go.Proofs.Try.Dn

