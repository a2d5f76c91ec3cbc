/-
  Jumps: bits of positions; after and Jump.
-/
import Derived.Test.YtegihfgibonhpaaPd
set_option linter.unusedSimpArgs false
set_option linter.unusedVariables false

namespace Go.Proofs.Try.Dn
open Go.Dn

/-- without some bits -/
def nd (m k : Nat) : Nat := (BitVec.ofNat 64 m &&& ~~~BitVec.ofNat 64 k).toNat

theorem nd_le (m k : Nat) : nd m k ≤ m := by
  unfold nd
  rw [BitVec.toNat_and]
  refine Nat.le_trans Nat.and_le_left ?_
  simp
  exact Nat.mod_le _ _

theorem ofInt_nat (m : Nat) : BitVec.ofInt 64 (m : Int) = BitVec.ofNat 64 m := by simp

theorem and_eq {m k : Nat} (hm : m < 65536) (hk : k < 65536) : binI .and (.i .i64 (m : Int)) (.i .i64 (k : Int)) = some (.i .i64 ((m &&& k : Nat) : Int)) := by
  have h1 : (m &&& k) ≤ m := Nat.and_le_left
  have : ((BitVec.ofInt 64 (m : Int)) &&& (BitVec.ofInt 64 (k : Int))).toNat = m &&& k := by
    rw [ofInt_nat, ofInt_nat, BitVec.toNat_and]
    simp only [BitVec.toNat_ofNat]
    rw [Nat.mod_eq_of_lt (by omega : m < 2 ^ 64), Nat.mod_eq_of_lt (by omega : k < 2 ^ 64)]
  rw [show binI .and (.i .i64 (m : Int)) (.i .i64 (k : Int)) = some (wrapR .i64 ((BitVec.ofInt 64 (m : Int)) &&& (BitVec.ofInt 64 (k : Int))).toNat) from rfl, this, wrapR_i64 (by omega)]

theorem or_eq {m k : Nat} (hm : m < 65536) (hk : k < 65536) : binI .or (.i .i64 (m : Int)) (.i .i64 (k : Int)) = some (.i .i64 ((m ||| k : Nat) : Int)) := by
  have h1 : (m ||| k) < 2 ^ 16 := Nat.or_lt_two_pow hm hk
  have : ((BitVec.ofInt 64 (m : Int)) ||| (BitVec.ofInt 64 (k : Int))).toNat = m ||| k := by
    rw [ofInt_nat, ofInt_nat, BitVec.toNat_or]
    simp only [BitVec.toNat_ofNat]
    rw [Nat.mod_eq_of_lt (by omega : m < 2 ^ 64), Nat.mod_eq_of_lt (by omega : k < 2 ^ 64)]
  rw [show binI .or (.i .i64 (m : Int)) (.i .i64 (k : Int)) = some (wrapR .i64 ((BitVec.ofInt 64 (m : Int)) ||| (BitVec.ofInt 64 (k : Int))).toNat) from rfl, this, wrapR_i64 (by omega)]

theorem bt_test (m i : Nat) : bt (m : Int) i = if m.testBit i then 1 else 0 := by
  have h : bt (m : Int) i = ((m / 2 ^ i % 2 : Nat) : Int) := by
    unfold bt
    simp
  rw [h, Nat.testBit_eq_decide_div_mod_eq]
  split
  · rename_i h; simp at h; rw [h]; rfl
  · rename_i h; simp at h; rw [h]; rfl

theorem two_lt {a : Nat} (h : a < 16) : 2 ^ a < 65536 := by
  have : ∀ k : Nat, k < 16 → 2 ^ k < 65536 := by decide
  exact this a h

theorem and_one_bit {m c : Nat} : m &&& 2 ^ c = 0 ↔ m.testBit c = false := by
  constructor
  · intro h
    have h1 := congrArg (·.testBit c) h
    simpa [Nat.testBit_and, Nat.testBit_two_pow_self] using h1
  · intro h
    apply Nat.eq_of_testBit_eq
    intro i
    rw [Nat.testBit_and, Nat.testBit_two_pow]
    by_cases hi : c = i
    · subst hi; simp [h]
    · simp [hi]

/-- whether a jump can be made, and the position then -/
def can (m : Nat) (j : Line) : Bool := m.testBit j.1.toNat && m.testBit j.2.1.toNat && !m.testBit j.2.2.toNat
def leap (m : Nat) (j : Line) : Nat := nd m (2 ^ j.1.toNat ||| 2 ^ j.2.1.toNat) ||| 2 ^ j.2.2.toNat

theorem leap_lt {m : Nat} {j : Line} (hm : m < 65536) (hj : j.2.2.toNat < 16) : leap m j < 65536 := by
  have h1 := nd_le m (2 ^ j.1.toNat ||| 2 ^ j.2.1.toNat)
  exact Nat.or_lt_two_pow (n := 16) (by omega) (two_lt hj)

theorem shl_eq {k : IntKind} {a : Int} (h0 : 0 ≤ a) (h1 : a < 16) : binI .shl (.i .i64 1) (.i k a) = some (.i .i64 ((2 ^ a.toNat : Nat) : Int)) := by
  have h2 : ¬ a < 0 := by omega
  have h3 : min a.toNat 64 = a.toNat := by omega
  have h4 := two_lt (a := a.toNat) (by omega)
  have h5 : wrapR .i64 ((2 : Int) ^ a.toNat) = .i .i64 ((2 ^ a.toNat : Nat) : Int) := by
    rw [show ((2 : Int) ^ a.toNat) = ((2 ^ a.toNat : Nat) : Int) by simp]
    generalize 2 ^ a.toNat = z at h4 ⊢
    exact wrapR_i64 (by omega)
  simp only [binI, if_neg h2, IntKind.bits, h3, Int.one_mul, h5]

theorem u64_hole {a : Int} (h0 : 0 ≤ a) (h1 : a < 16) : wrapR .u64 a = .i .u64 a := by
  unfold wrapR; simp [IntKind.wrap, IntKind.signed, IntKind.bits]; omega

def Hole3 (j : Line) : Prop := 0 ≤ j.1 ∧ j.1 < 16 ∧ 0 ≤ j.2.1 ∧ j.2.1 < 16 ∧ 0 ≤ j.2.2 ∧ j.2.2 < 16

theorem Hole3.of {n : Int} {j : Line} (hn : n ≤ 16) (h : FitsJ n j) : Hole3 j := by
  unfold FitsJ at h; unfold Hole3; omega

end Go.Proofs.Try.Dn

/-
  Jumps: whether a jump is one of a line's, and the reference's play.
-/

namespace Go.Proofs.Try.Dn
open Go.Dn

def same (x y : Line) : Bool := decide (x = y)

/-- a line in a heap, read -/
theorem ld_cl {pg : Pg} {R : Rec} {H : Heap} {id : Nat} {x : Line} (h : H[id]? = some (cl x)) : dkc pg R (.ld 3 true) [.ref id 0] H = some (.agg [.i .i64 x.1, .i .i64 x.2.1, .i .i64 x.2.2], H) ∧
    dkc pg R (.ld 1 false) [.ref id 0] H = some (.i .i64 x.1, H) ∧ dkc pg R (.ld 1 false) [.ref id 1] H = some (.i .i64 x.2.1, H) ∧ dkc pg R (.ld 1 false) [.ref id 2] H = some (.i .i64 x.2.2, H) := by
  refine ⟨?_, ?_, ?_, ?_⟩ <;> rw [k_ldR, h] <;> rfl

theorem LW_snap0 (b : Bool) (l : List Line) (H : Heap) : snap .borrow H 9 (LT b l) = some (LT true l) := snap_LT b H l

end Go.Proofs.Try.Dn

/-
  Jumps: the program's play.
-/

namespace Go.Proofs.Try.Dn
open Go.Dn

end Go.Proofs.Try.Dn

/-
  Jumps: the reference's list of jumps consists of a board's jumps.
-/

namespace Go.Proofs.Try.Dn
open Go.Dn

end Go.Proofs.Try.Dn

/-
  PegPlays: the statement's rounds, and the whole run.
-/

namespace Go.Proofs.Try.Dn
open Go.Dn

end Go.Proofs.Try.Dn

