/-
  Jumps: bits of positions; after and Jump.
-/
import Derived.Test.YtegihfgibonhpaaPd
set_option linter.unusedSimpArgs false
set_option linter.unusedVariables false

namespace Go.Proofs.Try.Dn
open Go.Dn

/-- without some bits -/
def nd (m k : Nat) : Nat := (BitVec.ofNat 64 m &&& ~~~BitVec.ofNat 64 k).toNat

theorem nd_or (m a b : Nat) : nd m (a ||| b) = nd (nd m a) b := by
  unfold nd
  rw [BitVec.ofNat_toNat, BitVec.setWidth_eq]
  congr 1
  have h : BitVec.ofNat 64 (a ||| b) = BitVec.ofNat 64 a ||| BitVec.ofNat 64 b := by
    apply BitVec.eq_of_toNat_eq
    rw [BitVec.toNat_or]
    simp only [BitVec.toNat_ofNat]
    exact Nat.or_mod_two_pow
  rw [h]
  generalize BitVec.ofNat 64 m = M
  generalize BitVec.ofNat 64 a = A
  generalize BitVec.ofNat 64 b = B
  apply BitVec.eq_of_getLsbD_eq
  intro i hi
  simp only [BitVec.getLsbD_and, BitVec.getLsbD_not, BitVec.getLsbD_or, hi, decide_true, Bool.true_and]
  cases M.getLsbD i <;> cases A.getLsbD i <;> cases B.getLsbD i <;> rfl

theorem nd_le (m k : Nat) : nd m k ≤ m := by
  unfold nd
  rw [BitVec.toNat_and]
  refine Nat.le_trans Nat.and_le_left ?_
  simp
  exact Nat.mod_le _ _

theorem ofInt_nat (m : Nat) : BitVec.ofInt 64 (m : Int) = BitVec.ofNat 64 m := by simp

theorem and_eq {m k : Nat} (hm : m < 65536) (hk : k < 65536) : binI .and (.i .i64 (m : Int)) (.i .i64 (k : Int)) = some (.i .i64 ((m &&& k : Nat) : Int)) := by
  have h1 : (m &&& k) ≤ m := Nat.and_le_left
  have : ((BitVec.ofInt 64 (m : Int)) &&& (BitVec.ofInt 64 (k : Int))).toNat = m &&& k := by
    rw [ofInt_nat, ofInt_nat, BitVec.toNat_and]
    simp only [BitVec.toNat_ofNat]
    rw [Nat.mod_eq_of_lt (by omega : m < 2 ^ 64), Nat.mod_eq_of_lt (by omega : k < 2 ^ 64)]
  rw [show binI .and (.i .i64 (m : Int)) (.i .i64 (k : Int)) = some (wrapR .i64 ((BitVec.ofInt 64 (m : Int)) &&& (BitVec.ofInt 64 (k : Int))).toNat) from rfl, this, wrapR_i64 (by omega)]

theorem or_eq {m k : Nat} (hm : m < 65536) (hk : k < 65536) : binI .or (.i .i64 (m : Int)) (.i .i64 (k : Int)) = some (.i .i64 ((m ||| k : Nat) : Int)) := by
  have h1 : (m ||| k) < 2 ^ 16 := Nat.or_lt_two_pow hm hk
  have : ((BitVec.ofInt 64 (m : Int)) ||| (BitVec.ofInt 64 (k : Int))).toNat = m ||| k := by
    rw [ofInt_nat, ofInt_nat, BitVec.toNat_or]
    simp only [BitVec.toNat_ofNat]
    rw [Nat.mod_eq_of_lt (by omega : m < 2 ^ 64), Nat.mod_eq_of_lt (by omega : k < 2 ^ 64)]
  rw [show binI .or (.i .i64 (m : Int)) (.i .i64 (k : Int)) = some (wrapR .i64 ((BitVec.ofInt 64 (m : Int)) ||| (BitVec.ofInt 64 (k : Int))).toNat) from rfl, this, wrapR_i64 (by omega)]

theorem nd_eq {m k : Nat} (hm : m < 65536) : binI .andNot (.i .i64 (m : Int)) (.i .i64 (k : Int)) = some (.i .i64 ((nd m k : Nat) : Int)) := by
  have h1 := nd_le m k
  rw [show binI .andNot (.i .i64 (m : Int)) (.i .i64 (k : Int)) = some (wrapR .i64 ((BitVec.ofInt 64 (m : Int)) &&& ~~~(BitVec.ofInt 64 (k : Int))).toNat) from rfl, ofInt_nat, ofInt_nat, show (BitVec.ofNat 64 m &&& ~~~BitVec.ofNat 64 k).toNat = nd m k from rfl, wrapR_i64 (by omega)]

theorem bt_test (m i : Nat) : bt (m : Int) i = if m.testBit i then 1 else 0 := by
  have h : bt (m : Int) i = ((m / 2 ^ i % 2 : Nat) : Int) := by
    unfold bt
    simp
  rw [h, Nat.testBit_eq_decide_div_mod_eq]
  split
  · rename_i h; simp at h; rw [h]; rfl
  · rename_i h; simp at h; rw [h]; rfl

theorem two_lt {a : Nat} (h : a < 16) : 2 ^ a < 65536 := by
  have : ∀ k : Nat, k < 16 → 2 ^ k < 65536 := by decide
  exact this a h

theorem and_two {m a b : Nat} : m &&& (2 ^ a ||| 2 ^ b) = 2 ^ a ||| 2 ^ b ↔ m.testBit a = true ∧ m.testBit b = true := by
  constructor
  · intro h
    have h1 := congrArg (·.testBit a) h
    have h2 := congrArg (·.testBit b) h
    simp [Nat.testBit_and, Nat.testBit_or, Nat.testBit_two_pow_self] at h1 h2
    exact ⟨h1, h2⟩
  · intro ⟨h1, h2⟩
    apply Nat.eq_of_testBit_eq
    intro i
    rw [Nat.testBit_and]
    by_cases hi : (2 ^ a ||| 2 ^ b).testBit i = true
    · rw [hi, Bool.and_true]
      rw [Nat.testBit_or, Nat.testBit_two_pow, Nat.testBit_two_pow] at hi
      simp at hi
      rcases hi with rfl | rfl <;> assumption
    · simp only [Bool.not_eq_true] at hi
      rw [hi, Bool.and_false]

theorem and_one_bit {m c : Nat} : m &&& 2 ^ c = 0 ↔ m.testBit c = false := by
  constructor
  · intro h
    have h1 := congrArg (·.testBit c) h
    simpa [Nat.testBit_and, Nat.testBit_two_pow_self] using h1
  · intro h
    apply Nat.eq_of_testBit_eq
    intro i
    rw [Nat.testBit_and, Nat.testBit_two_pow]
    by_cases hi : c = i
    · subst hi; simp [h]
    · simp [hi]

/-- whether a jump can be made, and the position then -/
def can (m : Nat) (j : Line) : Bool := m.testBit j.1.toNat && m.testBit j.2.1.toNat && !m.testBit j.2.2.toNat
def leap (m : Nat) (j : Line) : Nat := nd m (2 ^ j.1.toNat ||| 2 ^ j.2.1.toNat) ||| 2 ^ j.2.2.toNat

theorem leap_lt {m : Nat} {j : Line} (hm : m < 65536) (hj : j.2.2.toNat < 16) : leap m j < 65536 := by
  have h1 := nd_le m (2 ^ j.1.toNat ||| 2 ^ j.2.1.toNat)
  exact Nat.or_lt_two_pow (n := 16) (by omega) (two_lt hj)

theorem shl_eq {k : IntKind} {a : Int} (h0 : 0 ≤ a) (h1 : a < 16) : binI .shl (.i .i64 1) (.i k a) = some (.i .i64 ((2 ^ a.toNat : Nat) : Int)) := by
  have h2 : ¬ a < 0 := by omega
  have h3 : min a.toNat 64 = a.toNat := by omega
  have h4 := two_lt (a := a.toNat) (by omega)
  have h5 : wrapR .i64 ((2 : Int) ^ a.toNat) = .i .i64 ((2 ^ a.toNat : Nat) : Int) := by
    rw [show ((2 : Int) ^ a.toNat) = ((2 ^ a.toNat : Nat) : Int) by simp]
    generalize 2 ^ a.toNat = z at h4 ⊢
    exact wrapR_i64 (by omega)
  simp only [binI, if_neg h2, IntKind.bits, h3, Int.one_mul, h5]

theorem u64_hole {a : Int} (h0 : 0 ≤ a) (h1 : a < 16) : wrapR .u64 a = .i .u64 a := by
  unfold wrapR; simp [IntKind.wrap, IntKind.signed, IntKind.bits]; omega

def Hole3 (j : Line) : Prop := 0 ≤ j.1 ∧ j.1 < 16 ∧ 0 ≤ j.2.1 ∧ j.2.1 < 16 ∧ 0 ≤ j.2.2 ∧ j.2.2 < 16

theorem Hole3.of {n : Int} {j : Line} (hn : n ≤ 16) (h : FitsJ n j) : Hole3 j := by
  unfold FitsJ at h; unfold Hole3; omega

theorem fn65 {pg : Pg} (hF : Free pg) {m : Nat} {j : Line} (hm : m < 65536) (hj : Hole3 j) : Fn pg 65 [lineTV j, .i .i64 (m : Int)] (.tup [.i .i64 (if can m j then (leap m j : Int) else 0), .b (can m j)]) := by
  obtain ⟨a, b, c⟩ := j
  obtain ⟨f1, f2, f3, f4, f5, f6⟩ := hj
  simp only at f1 f2 f3 f4 f5 f6
  have ta := two_lt (a := a.toNat) (by omega)
  have tb := two_lt (a := b.toNat) (by omega)
  have tc := two_lt (a := c.toNat) (by omega)
  have tab : 2 ^ a.toNat ||| 2 ^ b.toNat < 65536 := Nat.or_lt_two_pow (n := 16) ta tb
  have hor := or_eq ta tb
  have hand := and_eq hm tab
  have hand2 := and_eq hm tc
  have hnd := nd_eq (k := 2 ^ a.toNat ||| 2 ^ b.toNat) hm
  have hor2 := or_eq (m := nd m (2 ^ a.toNat ||| 2 ^ b.toNat)) (k := 2 ^ c.toNat) (by have := nd_le m (2 ^ a.toNat ||| 2 ^ b.toNat); omega) tc
  have ha := shl_eq (k := .u64) f1 f2
  have hb := shl_eq (k := .u64) f3 f4
  have hcc := shl_eq (k := .u64) f5 f6
  have ua := u64_hole f1 f2
  have ub := u64_hole f3 f4
  have uc := u64_hole f5 f6
  generalize hA : 2 ^ a.toNat ||| 2 ^ b.toNat = A at *
  generalize hC : 2 ^ c.toNat = C at *
  generalize hTA : 2 ^ a.toNat = TA at *
  generalize hTB : 2 ^ b.toNat = TB at *
  by_cases h1 : m &&& A = A
  · by_cases h2 : m &&& C = 0
    · have hcan : can m (a, b, c) = true := by
        have k1 := (and_two (m := m) (a := a.toNat) (b := b.toNat)).1 (by rw [hTA, hTB, hA]; exact h1)
        have k2 := (and_one_bit (m := m) (c := c.toNat)).1 (by rw [hC]; exact h2)
        simp [can, k1, k2]
      have hl : leap m (a, b, c) = nd m A ||| C := by simp only [leap, hTA, hTB, hA, hC]
      rw [hcan]
      have b1 : (((m &&& A : Nat) : Int) != ((A : Nat) : Int)) = false := by simp [h1]
      have b2 : (((m &&& C : Nat) : Int) != 0) = false := by simp [h2]
      refine .of2 (x := .ret) (e := [(4, .i .i64 ((nd m A ||| C : Nat) : Int)), (5, .b true)]) (H' := [.cells [.i .i64 a, .i .i64 b, .i .i64 c] true]) (hF.S _ _ (by decide)) (d := d65) (by rw [hF.F]; rfl) rfl ?_ (.inl rfl) (by simp [d65, mapO, resRun, Dn.get, hl]) (by simp) (by simp [sn_i, sn_b, sn_nil, sn8_i, sn8_b, sn8_nil, sn7_i, sn7_b, sn_sl, sn8_sl, slB_some, sn_tup, sn_agg, sn8_agg, mapO, elems])
      simp [d65, c65, zipE, go_nil, go_last, go_past, go_pastR, go_blkN, go_blkR, go_blkE, go_skip, go_exit, go_ret, go_scope, go_seq, go_reg, go_block, go_cond, cnd_b, go_opsN, go_ops, go_opsG, grd_b, grd_u, stp_some, fin_some, up_some, cont_some, k_call, k_mv, k_pick, k_bin, k_eqB, k_eqA, k_not, k_neg, k_conv, k_alloc, k_boxA, k_boxI, k_boxB, k_boxN, k_boxBs, k_ldR, k_ldA, k_ldI, k_ldB, k_stA, k_stI, k_stB, ldC_some, stC_some, k_mkfn, k_slc, k_slcA, k_ixA, k_ixBs, k_ixSl, k_fadr, k_fld, k_ext, k_len, k_app, k_mn, k_mx, k_nilck, k_build, k_bsl1, k_bsl2, b_add, b_sub, b_mul, b_eql, b_neq, b_lss, b_leq, b_gtr, b_geq, Dn.setLast, Dn.getLast, evalO, mapO, Dn.get, putE, keepE, TV.one, TV.isAgg, Dn.part, lineTV, ua, ub, uc, ha, hb, hcc, hor, hand, hand2, hnd, hor2, h1, h2]
    · have hcan : can m (a, b, c) = false := by
        have k2 := mt (and_one_bit (m := m) (c := c.toNat)).2 (by rw [hC]; exact h2)
        simp [can] at k2 ⊢
        intro _ _; exact k2
      rw [hcan]
      refine .of2 (x := .ret) (e := [(4, .i .i64 0), (5, .b false)]) (H' := [.cells [.i .i64 a, .i .i64 b, .i .i64 c] true]) (hF.S _ _ (by decide)) (d := d65) (by rw [hF.F]; rfl) rfl ?_ (.inl rfl) (by simp [d65, mapO, resRun, Dn.get]) (by simp) (by simp [sn_i, sn_b, sn_nil, sn8_i, sn8_b, sn8_nil, sn7_i, sn7_b, sn_sl, sn8_sl, slB_some, sn_tup, sn_agg, sn8_agg, mapO, elems])
      have b2 : (((m &&& C : Nat) : Int) != 0) = true := by simp; omega
      simp [d65, c65, zipE, go_nil, go_last, go_past, go_pastR, go_blkN, go_blkR, go_blkE, go_skip, go_exit, go_ret, go_scope, go_seq, go_reg, go_block, go_cond, cnd_b, go_opsN, go_ops, go_opsG, grd_b, grd_u, stp_some, fin_some, up_some, cont_some, k_call, k_mv, k_pick, k_bin, k_eqB, k_eqA, k_not, k_neg, k_conv, k_alloc, k_boxA, k_boxI, k_boxB, k_boxN, k_boxBs, k_ldR, k_ldA, k_ldI, k_ldB, k_stA, k_stI, k_stB, ldC_some, stC_some, k_mkfn, k_slc, k_slcA, k_ixA, k_ixBs, k_ixSl, k_fadr, k_fld, k_ext, k_len, k_app, k_mn, k_mx, k_nilck, k_build, k_bsl1, k_bsl2, b_add, b_sub, b_mul, b_eql, b_neq, b_lss, b_leq, b_gtr, b_geq, Dn.setLast, Dn.getLast, evalO, mapO, Dn.get, putE, keepE, TV.one, TV.isAgg, Dn.part, lineTV, ua, ub, uc, ha, hb, hcc, hor, hand, hand2, hnd, hor2, h1, b2]
  · have hcan : can m (a, b, c) = false := by
      have k2 := mt (and_two (m := m) (a := a.toNat) (b := b.toNat)).2 (by rw [hTA, hTB, hA]; exact h1)
      simp [can] at k2 ⊢
      intro h3 h4
      rw [k2 h3] at h4; cases h4
    rw [hcan]
    have b1 : (((m &&& A : Nat) : Int) != ((A : Nat) : Int)) = true := by simp; omega
    refine .of2 (x := .ret) (e := [(4, .i .i64 0), (5, .b false)]) (H' := [.cells [.i .i64 a, .i .i64 b, .i .i64 c] true]) (hF.S _ _ (by decide)) (d := d65) (by rw [hF.F]; rfl) rfl ?_ (.inl rfl) (by simp [d65, mapO, resRun, Dn.get]) (by simp) (by simp [sn_i, sn_b, sn_nil, sn8_i, sn8_b, sn8_nil, sn7_i, sn7_b, sn_sl, sn8_sl, slB_some, sn_tup, sn_agg, sn8_agg, mapO, elems])
    simp [d65, c65, zipE, go_nil, go_last, go_past, go_pastR, go_blkN, go_blkR, go_blkE, go_skip, go_exit, go_ret, go_scope, go_seq, go_reg, go_block, go_cond, cnd_b, go_opsN, go_ops, go_opsG, grd_b, grd_u, stp_some, fin_some, up_some, cont_some, k_call, k_mv, k_pick, k_bin, k_eqB, k_eqA, k_not, k_neg, k_conv, k_alloc, k_boxA, k_boxI, k_boxB, k_boxN, k_boxBs, k_ldR, k_ldA, k_ldI, k_ldB, k_stA, k_stI, k_stB, ldC_some, stC_some, k_mkfn, k_slc, k_slcA, k_ixA, k_ixBs, k_ixSl, k_fadr, k_fld, k_ext, k_len, k_app, k_mn, k_mx, k_nilck, k_build, k_bsl1, k_bsl2, b_add, b_sub, b_mul, b_eql, b_neq, b_lss, b_leq, b_gtr, b_geq, Dn.setLast, Dn.getLast, evalO, mapO, Dn.get, putE, keepE, TV.one, TV.isAgg, Dn.part, lineTV, ua, ub, uc, ha, hb, hcc, hor, hand, hand2, hnd, hor2, b1]


theorem fn39 {pg : Pg} (hF : Free pg) {m : Nat} {j : Line} (hm : m < 65536) (hj : Hole3 j) : Fn pg 39 [.i .i64 (m : Int), lineTV j] (.tup [.i .i64 (if can m j then (leap m j : Int) else (m : Int)), .b (can m j)]) := by
  obtain ⟨a, b, c⟩ := j
  obtain ⟨f1, f2, f3, f4, f5, f6⟩ := hj
  simp only at f1 f2 f3 f4 f5 f6
  have hsh : ∀ x : Int, 0 ≤ x → x < 16 → binI .shr (.i .i64 (m : Int)) (.i .i64 x) = some (.i .i64 ((m : Int) / 2 ^ x.toNat)) := by
    intro x h0 h1
    have := shr_eq (p := (m : Int)) (i := x.toNat) (k := .i64) (by omega)
    rwa [show ((x.toNat : Nat) : Int) = x by omega] at this
  have hrem : ∀ x : Int, binI .rem (.i .i64 ((m : Int) / 2 ^ x.toNat)) (.i .i64 2) = some (.i .i64 (if m.testBit x.toNat then 1 else 0)) := by
    intro x
    have hnn : 0 ≤ (m : Int) / 2 ^ x.toNat := Int.ediv_nonneg (by omega) (Int.le_of_lt (Int.pow_pos (by decide)))
    rw [b_rem, if_neg (by decide), Int.tmod_eq_emod_of_nonneg hnn, show (m : Int) / 2 ^ x.toNat % 2 = bt (m : Int) x.toNat from rfl, bt_test]
  have sa := hsh a f1 f2
  have sb := hsh b f3 f4
  have sc := hsh c f5 f6
  have ra := hrem a
  have rb := hrem b
  have rc := hrem c
  by_cases h1 : m.testBit a.toNat = true
  · by_cases h2 : m.testBit b.toNat = true
    · by_cases h3 : m.testBit c.toNat = true
      · have hcan : can m (a, b, c) = false := by simp [can, h3]
        rw [hcan]
        rw [if_pos h1] at ra; rw [if_pos h2] at rb; rw [if_pos h3] at rc
        refine .of2 (x := .ret) (e := [(4, .i .i64 (m : Int)), (5, .b false)]) (H' := [.cells [.i .i64 a, .i .i64 b, .i .i64 c] true]) (hF.S _ _ (by decide)) (d := d39) (by rw [hF.F]; rfl) rfl ?_ (.inl rfl) (by simp [d39, mapO, resRun, Dn.get]) (by simp) (by simp [sn_i, sn_b, sn_nil, sn8_i, sn8_b, sn8_nil, sn7_i, sn7_b, sn_sl, sn8_sl, slB_some, sn_tup, sn_agg, sn8_agg, mapO, elems])
        simp [d39, c39, zipE, go_nil, go_last, go_past, go_pastR, go_blkN, go_blkR, go_blkE, go_skip, go_exit, go_ret, go_scope, go_seq, go_reg, go_block, go_cond, cnd_b, go_opsN, go_ops, go_opsG, grd_b, grd_u, stp_some, fin_some, up_some, cont_some, k_call, k_mv, k_pick, k_bin, k_eqB, k_eqA, k_not, k_neg, k_conv, k_alloc, k_boxA, k_boxI, k_boxB, k_boxN, k_boxBs, k_ldR, k_ldA, k_ldI, k_ldB, k_stA, k_stI, k_stB, ldC_some, stC_some, k_mkfn, k_slc, k_slcA, k_ixA, k_ixBs, k_ixSl, k_fadr, k_fld, k_ext, k_len, k_app, k_mn, k_mx, k_nilck, k_build, k_bsl1, k_bsl2, b_add, b_sub, b_mul, b_eql, b_neq, b_lss, b_leq, b_gtr, b_geq, Dn.setLast, Dn.getLast, evalO, mapO, Dn.get, putE, keepE, TV.one, TV.isAgg, Dn.part, lineTV, sa, sb, sc, ra, rb, rc]
      · have hcan : can m (a, b, c) = true := by simp [can, h1, h2, h3]
        rw [hcan]
        rw [if_pos h1] at ra; rw [if_pos h2] at rb; rw [if_neg h3] at rc
        have ta := two_lt (a := a.toNat) (by omega)
        have tb := two_lt (a := b.toNat) (by omega)
        have tc := two_lt (a := c.toNat) (by omega)
        have ha := shl_eq (k := .i64) f1 f2
        have hb := shl_eq (k := .i64) f3 f4
        have hcc := shl_eq (k := .i64) f5 f6
        have hl : leap m (a, b, c) = nd (nd m (2 ^ a.toNat)) (2 ^ b.toNat) ||| 2 ^ c.toNat := by unfold leap; rw [nd_or]
        generalize 2 ^ a.toNat = TA at *
        generalize 2 ^ b.toNat = TB at *
        generalize 2 ^ c.toNat = TC at *
        have n1 := nd_eq (k := TA) hm
        have l1 := nd_le m TA
        have n2 := nd_eq (m := nd m TA) (k := TB) (by omega)
        have l2 := nd_le (nd m TA) TB
        have n3 := or_eq (m := nd (nd m TA) TB) (k := TC) (by omega) tc
        refine .of2 (x := .ret) (e := [(4, .i .i64 ((nd (nd m TA) TB ||| TC : Nat) : Int)), (5, .b true)]) (H' := [.cells [.i .i64 a, .i .i64 b, .i .i64 c] true]) (hF.S _ _ (by decide)) (d := d39) (by rw [hF.F]; rfl) rfl ?_ (.inl rfl) (by simp [d39, mapO, resRun, Dn.get, hl]) (by simp) (by simp [sn_i, sn_b, sn_nil, sn8_i, sn8_b, sn8_nil, sn7_i, sn7_b, sn_sl, sn8_sl, slB_some, sn_tup, sn_agg, sn8_agg, mapO, elems])
        simp [d39, c39, zipE, go_nil, go_last, go_past, go_pastR, go_blkN, go_blkR, go_blkE, go_skip, go_exit, go_ret, go_scope, go_seq, go_reg, go_block, go_cond, cnd_b, go_opsN, go_ops, go_opsG, grd_b, grd_u, stp_some, fin_some, up_some, cont_some, k_call, k_mv, k_pick, k_bin, k_eqB, k_eqA, k_not, k_neg, k_conv, k_alloc, k_boxA, k_boxI, k_boxB, k_boxN, k_boxBs, k_ldR, k_ldA, k_ldI, k_ldB, k_stA, k_stI, k_stB, ldC_some, stC_some, k_mkfn, k_slc, k_slcA, k_ixA, k_ixBs, k_ixSl, k_fadr, k_fld, k_ext, k_len, k_app, k_mn, k_mx, k_nilck, k_build, k_bsl1, k_bsl2, b_add, b_sub, b_mul, b_eql, b_neq, b_lss, b_leq, b_gtr, b_geq, Dn.setLast, Dn.getLast, evalO, mapO, Dn.get, putE, keepE, TV.one, TV.isAgg, Dn.part, lineTV, sa, sb, sc, ra, rb, rc, ha, hb, hcc, n1, n2, n3]
    · have hcan : can m (a, b, c) = false := by simp [can, h2]
      rw [hcan]
      rw [if_pos h1] at ra; rw [if_neg h2] at rb
      refine .of2 (x := .ret) (e := [(4, .i .i64 (m : Int)), (5, .b false)]) (H' := [.cells [.i .i64 a, .i .i64 b, .i .i64 c] true]) (hF.S _ _ (by decide)) (d := d39) (by rw [hF.F]; rfl) rfl ?_ (.inl rfl) (by simp [d39, mapO, resRun, Dn.get]) (by simp) (by simp [sn_i, sn_b, sn_nil, sn8_i, sn8_b, sn8_nil, sn7_i, sn7_b, sn_sl, sn8_sl, slB_some, sn_tup, sn_agg, sn8_agg, mapO, elems])
      simp [d39, c39, zipE, go_nil, go_last, go_past, go_pastR, go_blkN, go_blkR, go_blkE, go_skip, go_exit, go_ret, go_scope, go_seq, go_reg, go_block, go_cond, cnd_b, go_opsN, go_ops, go_opsG, grd_b, grd_u, stp_some, fin_some, up_some, cont_some, k_call, k_mv, k_pick, k_bin, k_eqB, k_eqA, k_not, k_neg, k_conv, k_alloc, k_boxA, k_boxI, k_boxB, k_boxN, k_boxBs, k_ldR, k_ldA, k_ldI, k_ldB, k_stA, k_stI, k_stB, ldC_some, stC_some, k_mkfn, k_slc, k_slcA, k_ixA, k_ixBs, k_ixSl, k_fadr, k_fld, k_ext, k_len, k_app, k_mn, k_mx, k_nilck, k_build, k_bsl1, k_bsl2, b_add, b_sub, b_mul, b_eql, b_neq, b_lss, b_leq, b_gtr, b_geq, Dn.setLast, Dn.getLast, evalO, mapO, Dn.get, putE, keepE, TV.one, TV.isAgg, Dn.part, lineTV, sa, sb, sc, ra, rb, rc]
  · have hcan : can m (a, b, c) = false := by simp [can, h1]
    rw [hcan]
    rw [if_neg h1] at ra
    refine .of2 (x := .ret) (e := [(4, .i .i64 (m : Int)), (5, .b false)]) (H' := [.cells [.i .i64 a, .i .i64 b, .i .i64 c] true]) (hF.S _ _ (by decide)) (d := d39) (by rw [hF.F]; rfl) rfl ?_ (.inl rfl) (by simp [d39, mapO, resRun, Dn.get]) (by simp) (by simp [sn_i, sn_b, sn_nil, sn8_i, sn8_b, sn8_nil, sn7_i, sn7_b, sn_sl, sn8_sl, slB_some, sn_tup, sn_agg, sn8_agg, mapO, elems])
    simp [d39, c39, zipE, go_nil, go_last, go_past, go_pastR, go_blkN, go_blkR, go_blkE, go_skip, go_exit, go_ret, go_scope, go_seq, go_reg, go_block, go_cond, cnd_b, go_opsN, go_ops, go_opsG, grd_b, grd_u, stp_some, fin_some, up_some, cont_some, k_call, k_mv, k_pick, k_bin, k_eqB, k_eqA, k_not, k_neg, k_conv, k_alloc, k_boxA, k_boxI, k_boxB, k_boxN, k_boxBs, k_ldR, k_ldA, k_ldI, k_ldB, k_stA, k_stI, k_stB, ldC_some, stC_some, k_mkfn, k_slc, k_slcA, k_ixA, k_ixBs, k_ixSl, k_fadr, k_fld, k_ext, k_len, k_app, k_mn, k_mx, k_nilck, k_build, k_bsl1, k_bsl2, b_add, b_sub, b_mul, b_eql, b_neq, b_lss, b_leq, b_gtr, b_geq, Dn.setLast, Dn.getLast, evalO, mapO, Dn.get, putE, keepE, TV.one, TV.isAgg, Dn.part, lineTV, sa, sb, sc, ra, rb, rc]

end Go.Proofs.Try.Dn

/-
  Jumps: whether a jump is one of a line's, and the reference's play.
-/

namespace Go.Proofs.Try.Dn
open Go.Dn

def same (x y : Line) : Bool := decide (x = y)

theorem eqL3 (a b c a' b' c' : Int) : eqL [true, true, true] [.i .i64 a, .i .i64 b, .i .i64 c] [.i .i64 a', .i .i64 b', .i .i64 c'] = some (same (a, b, c) (a', b', c')) := by
  simp only [eqL, eqS, if_true, Option.bind_some, Option.map_some, Option.some.injEq, same]
  rw [Bool.eq_iff_iff]
  simp

/-- a line in a heap, read -/
theorem ld_cl {pg : Pg} {R : Rec} {H : Heap} {id : Nat} {x : Line} (h : H[id]? = some (cl x)) : dkc pg R (.ld 3 true) [.ref id 0] H = some (.agg [.i .i64 x.1, .i .i64 x.2.1, .i .i64 x.2.2], H) ∧
    dkc pg R (.ld 1 false) [.ref id 0] H = some (.i .i64 x.1, H) ∧ dkc pg R (.ld 1 false) [.ref id 1] H = some (.i .i64 x.2.1, H) ∧ dkc pg R (.ld 1 false) [.ref id 2] H = some (.i .i64 x.2.2, H) := by
  refine ⟨?_, ?_, ?_, ?_⟩ <;> rw [k_ldR, h] <;> rfl

theorem LW_snap0 (b : Bool) (l : List Line) (H : Heap) : snap .borrow H 9 (LT b l) = some (LT true l) := snap_LT b H l

def ofB (l : List Line) (j : Line) : Bool := l.any fun x => same x j || same x (rev j)

theorem rev_rev (x : Line) : rev (rev x) = x := rfl

theorem mem_js {j : Line} : ∀ {l : List Line}, j ∈ js l ↔ ofB l j = true
  | [] => by simp [js, ofB]
  | x :: l => by
    have ih := mem_js (j := j) (l := l)
    simp only [js, List.mem_cons, ih, ofB, same, List.any_cons, Bool.or_eq_true, decide_eq_true_eq]
    constructor
    · rintro (h | h | h)
      · exact .inl (.inl h.symm)
      · exact .inl (.inr (by rw [h, rev_rev]))
      · exact .inr h
    · rintro ((h | h) | h)
      · exact .inl h.symm
      · exact .inr (.inl (by rw [h, rev_rev]))
      · exact .inr (.inr h)

theorem l52_round {pg : Pg} {H : Heap} {l : List Line} {i : Nat} {x j : Line} (hl : l.length ≤ 40) (hx : l[i]? = some x) (hj : H[0]? = some (cl j)) :
    den pg l52_1 [(0, LT true l), (3, .ref 0 0), (5, .i .i64 (i : Int))] H = if (same x j || same x (rev j)) = true then some ⟨.ret, [(4, .b true)], H ++ [cl x]⟩ else den pg l52_1 [(0, LT true l), (3, .ref 0 0), (5, .i .i64 ((i + 1 : Nat) : Int))] (H ++ [cl x]) := by
  have hi := (List.getElem?_eq_some_iff.1 hx).1
  have e1 : ((i : Int) < (l.length : Int)) := by omega
  have e2 : wrapR .i64 ((i : Int) + 1) = .i .i64 ((i : Int) + 1) := wrapR_i64 (by omega)
  have hlen := LT_len true l
  have hV : elL.View H (LT true l) l := by rw [LT_lt]; exact El.lt_view _ _ _
  obtain ⟨p, hp, hat, _⟩ := ixL (pg := pg) (R := den pg) hV hx
  have hld := ldL (pg := pg) (R := den pg) hat
  have hlt := (List.getElem?_eq_some_iff.1 hj).1
  have hj' : (H ++ [cl x])[0]? = some (cl j) := by rw [List.getElem?_append_left hlt]; exact hj
  obtain ⟨q3, q0, q1, q2⟩ := ld_cl (pg := pg) (R := den pg) hj'
  obtain ⟨x0, x1, x2⟩ := x
  obtain ⟨j0, j1, j2⟩ := j
  simp only [cl, lineTV] at hld q3 q0 q1 q2
  cases c1 : same (x0, x1, x2) (j0, j1, j2) with
  | true =>
    rw [Bool.true_or, if_pos rfl, l52_1, den_loop]
    simp [l52_1, b52_0, go_nil, go_last, go_past, go_pastR, go_blkN, go_blkR, go_blkE, go_skip, go_exit, go_ret, go_scope, go_seq, go_reg, go_block, go_cond, cnd_b, go_opsN, go_ops, go_opsG, grd_b, grd_u, stp_some, fin_some, up_some, cont_some, k_call, k_mv, k_pick, k_bin, k_eqB, k_eqA, k_not, k_neg, k_conv, k_alloc, k_boxA, k_boxI, k_boxB, k_boxN, k_boxBs, k_ldR, k_ldA, k_ldI, k_ldB, k_stA, k_stI, k_stB, ldC_some, stC_some, k_mkfn, k_slc, k_slcA, k_ixA, k_ixBs, k_ixSl, k_fadr, k_fld, k_ext, k_len, k_app, k_mn, k_mx, k_nilck, k_build, k_bsl1, k_bsl2, b_add, b_sub, b_mul, b_eql, b_neq, b_lss, b_leq, b_gtr, b_geq, Dn.setLast, Dn.getLast, evalO, mapO, Dn.get, putE, keepE, TV.one, TV.isAgg, Dn.part, hlen, e1, hp, hld, put2, q3, eqL3, c1, negb, cl]
  | false =>
    cases c2 : same (x0, x1, x2) (j2, j1, j0) with
    | true =>
      rw [if_pos (show (false || same (x0, x1, x2) (rev (j0, j1, j2))) = true from c2), l52_1, den_loop]
      simp [l52_1, b52_0, go_nil, go_last, go_past, go_pastR, go_blkN, go_blkR, go_blkE, go_skip, go_exit, go_ret, go_scope, go_seq, go_reg, go_block, go_cond, cnd_b, go_opsN, go_ops, go_opsG, grd_b, grd_u, stp_some, fin_some, up_some, cont_some, k_call, k_mv, k_pick, k_bin, k_eqB, k_eqA, k_not, k_neg, k_conv, k_alloc, k_boxA, k_boxI, k_boxB, k_boxN, k_boxBs, k_ldR, k_ldA, k_ldI, k_ldB, k_stA, k_stI, k_stB, ldC_some, stC_some, k_mkfn, k_slc, k_slcA, k_ixA, k_ixBs, k_ixSl, k_fadr, k_fld, k_ext, k_len, k_app, k_mn, k_mx, k_nilck, k_build, k_bsl1, k_bsl2, b_add, b_sub, b_mul, b_eql, b_neq, b_lss, b_leq, b_gtr, b_geq, Dn.setLast, Dn.getLast, evalO, mapO, Dn.get, putE, keepE, TV.one, TV.isAgg, Dn.part, hlen, e1, hp, hld, put2, q3, q0, q1, q2, eqL3, c1, c2, negb, cl, fillP, TV.cells]
    | false =>
      rw [if_neg (by rw [show (false || same (x0, x1, x2) (rev (j0, j1, j2))) = false from c2]; decide), l52_1, den_loop]
      simp [l52_1, b52_0, go_nil, go_last, go_past, go_pastR, go_blkN, go_blkR, go_blkE, go_skip, go_exit, go_ret, go_scope, go_seq, go_reg, go_block, go_cond, cnd_b, go_opsN, go_ops, go_opsG, grd_b, grd_u, stp_some, fin_some, up_some, cont_some, k_call, k_mv, k_pick, k_bin, k_eqB, k_eqA, k_not, k_neg, k_conv, k_alloc, k_boxA, k_boxI, k_boxB, k_boxN, k_boxBs, k_ldR, k_ldA, k_ldI, k_ldB, k_stA, k_stI, k_stB, ldC_some, stC_some, k_mkfn, k_slc, k_slcA, k_ixA, k_ixBs, k_ixSl, k_fadr, k_fld, k_ext, k_len, k_app, k_mn, k_mx, k_nilck, k_build, k_bsl1, k_bsl2, b_add, b_sub, b_mul, b_eql, b_neq, b_lss, b_leq, b_gtr, b_geq, Dn.setLast, Dn.getLast, evalO, mapO, Dn.get, putE, keepE, TV.one, TV.isAgg, Dn.part, hlen, e1, e2, hp, hld, put2, q3, q0, q1, q2, eqL3, c1, c2, negb, cl, fillP, TV.cells]

theorem l52_all {pg : Pg} {l : List Line} {j : Line} (hl : l.length ≤ 40) : ∀ (k i : Nat) (H : Heap), i + k = l.length → H[0]? = some (cl j) →
    ∃ x e H', den pg l52_1 [(0, LT true l), (3, .ref 0 0), (5, .i .i64 (i : Int))] H = some ⟨x, e, H'⟩ ∧ (x = .exit 0 ∧ ofB (l.drop i) j = false ∨ x = .ret ∧ e = [(4, .b true)] ∧ ofB (l.drop i) j = true)
  | 0, i, H, h, hj => by
    have e1 : ¬ ((i : Int) < (l.length : Int)) := by omega
    have hlen := LT_len true l
    refine ⟨.exit 0, [(0, LT true l), (3, .ref 0 0), (5, .i .i64 (i : Int)), (10, .b false)], H, ?_, .inl ⟨rfl, by rw [List.drop_eq_nil_of_le (by omega)]; rfl⟩⟩
    rw [l52_1, den_loop]
    simp [b52_0, go_nil, go_last, go_past, go_pastR, go_blkN, go_blkR, go_blkE, go_skip, go_exit, go_ret, go_scope, go_seq, go_reg, go_block, go_cond, cnd_b, go_opsN, go_ops, go_opsG, grd_b, grd_u, stp_some, fin_some, up_some, cont_some, k_call, k_mv, k_pick, k_bin, k_eqB, k_eqA, k_not, k_neg, k_conv, k_alloc, k_boxA, k_boxI, k_boxB, k_boxN, k_boxBs, k_ldR, k_ldA, k_ldI, k_ldB, k_stA, k_stI, k_stB, ldC_some, stC_some, k_mkfn, k_slc, k_slcA, k_ixA, k_ixBs, k_ixSl, k_fadr, k_fld, k_ext, k_len, k_app, k_mn, k_mx, k_nilck, k_build, k_bsl1, k_bsl2, b_add, b_sub, b_mul, b_eql, b_neq, b_lss, b_leq, b_gtr, b_geq, Dn.setLast, Dn.getLast, evalO, mapO, Dn.get, putE, keepE, TV.one, TV.isAgg, Dn.part, hlen, e1]
  | k + 1, i, H, h, hj => by
    have hi : i < l.length := by omega
    have hr := l52_round (pg := pg) hl (List.getElem?_eq_getElem hi) hj
    have hd : l.drop i = l[i] :: l.drop (i + 1) := List.drop_eq_getElem_cons hi
    have hlt := (List.getElem?_eq_some_iff.1 hj).1
    rw [hd]
    unfold ofB
    rw [List.any_cons]
    cases c : (same l[i] j || same l[i] (rev j)) with
    | true =>
      rw [c, if_pos rfl] at hr
      exact ⟨_, _, _, hr, .inr ⟨rfl, rfl, rfl⟩⟩
    | false =>
      rw [c, if_neg (by decide)] at hr
      obtain ⟨x, e, H', h1, h2⟩ := l52_all (pg := pg) hl k (i + 1) (H ++ [cl l[i]]) (by omega) (by rw [List.getElem?_append_left hlt]; exact hj)
      exact ⟨x, e, H', hr.trans h1, by simpa [ofB] using h2⟩

theorem fn52 {pg : Pg} (hF : Free pg) {l : List Line} (hl : l.length ≤ 40) (j : Line) : Fn pg 52 [LT true l, lineTV j] (.b (ofB l j)) := by
  obtain ⟨x, e, H', h1, h2⟩ := l52_all (pg := pg) (j := j) hl l.length 0 [cl j] (by omega) rfl
  simp only [Int.natCast_zero, List.drop_zero] at h1 h2
  simp only [cl] at h1
  have hone : (TV.bs true 3 []).one = true := rfl
  rcases h2 with ⟨rfl, h4⟩ | ⟨rfl, rfl, h4⟩
  · refine .of1 (x := .ret) (e := [(4, .b false)]) (H' := H') (hF.S _ _ (by decide)) (d := d52) (by rw [hF.F]; rfl) rfl ?_ (.inl rfl) (by rw [h4]; rfl) (by simp [sn_i, sn_b, sn_nil, sn8_i, sn8_b, sn8_nil, sn7_i, sn7_b, sn_sl, sn8_sl, slB_some, sn_tup, sn_agg, sn8_agg, mapO, elems])
    simp [d52, c52, zipE, go_nil, go_last, go_past, go_pastR, go_blkN, go_blkR, go_blkE, go_skip, go_exit, go_ret, go_scope, go_seq, go_reg, go_block, go_cond, cnd_b, go_opsN, go_ops, go_opsG, grd_b, grd_u, stp_some, fin_some, up_some, cont_some, k_call, k_mv, k_pick, k_bin, k_eqB, k_eqA, k_not, k_neg, k_conv, k_alloc, k_boxA, k_boxI, k_boxB, k_boxN, k_boxBs, k_ldR, k_ldA, k_ldI, k_ldB, k_stA, k_stI, k_stB, ldC_some, stC_some, k_mkfn, k_slc, k_slcA, k_ixA, k_ixBs, k_ixSl, k_fadr, k_fld, k_ext, k_len, k_app, k_mn, k_mx, k_nilck, k_build, k_bsl1, k_bsl2, b_add, b_sub, b_mul, b_eql, b_neq, b_lss, b_leq, b_gtr, b_geq, Dn.setLast, Dn.getLast, evalO, mapO, Dn.get, putE, keepE, TV.one, TV.isAgg, Dn.part, lineTV, go_den l52_1, h1]
  · refine .of1 (x := .ret) (e := [(4, .b true)]) (H' := H') (hF.S _ _ (by decide)) (d := d52) (by rw [hF.F]; rfl) rfl ?_ (.inl rfl) (by rw [h4]; rfl) (by simp [sn_i, sn_b, sn_nil, sn8_i, sn8_b, sn8_nil, sn7_i, sn7_b, sn_sl, sn8_sl, slB_some, sn_tup, sn_agg, sn8_agg, mapO, elems])
    simp [d52, c52, zipE, go_nil, go_last, go_past, go_pastR, go_blkN, go_blkR, go_blkE, go_skip, go_exit, go_ret, go_scope, go_seq, go_reg, go_block, go_cond, cnd_b, go_opsN, go_ops, go_opsG, grd_b, grd_u, stp_some, fin_some, up_some, cont_some, k_call, k_mv, k_pick, k_bin, k_eqB, k_eqA, k_not, k_neg, k_conv, k_alloc, k_boxA, k_boxI, k_boxB, k_boxN, k_boxBs, k_ldR, k_ldA, k_ldI, k_ldB, k_stA, k_stI, k_stB, ldC_some, stC_some, k_mkfn, k_slc, k_slcA, k_ixA, k_ixBs, k_ixSl, k_fadr, k_fld, k_ext, k_len, k_app, k_mn, k_mx, k_nilck, k_build, k_bsl1, k_bsl2, b_add, b_sub, b_mul, b_eql, b_neq, b_lss, b_leq, b_gtr, b_geq, Dn.setLast, Dn.getLast, evalO, mapO, Dn.get, putE, keepE, TV.one, TV.isAgg, Dn.part, lineTV, go_den l52_1, h1]

/-- the reference's play: the position in the end, and whether all jumps could be made -/
def playR (l : List Line) : Nat → List Line → Nat × Bool
  | m, [] => (m, true)
  | m, j :: g => if ofB l j && can m j then playR l (leap m j) g else (m, false)

theorem hole_of {n : Int} {l : List Line} {j : Line} (hn : n ≤ 16) (hf : ∀ x ∈ l, Fits n x) (h : ofB l j = true) : Hole3 j :=
  Hole3.of hn (js_fits hf j (mem_js.2 h))

theorem l21_all {pg : Pg} (hF : Free pg) {n : Int} {l g : List Line} (hc : chk n l = 0) (hg : g.length ≤ 1000) : ∀ (k i : Nat) (m : Nat) (H : Heap), i + k = g.length → m < 65536 →
    ∃ x e, den pg l21_1 [(0, LT true l), (1, .i .i64 (m : Int)), (2, LT true g), (8, .i .i64 (i : Int))] H = some ⟨x, e, H⟩ ∧
      (x = .exit 0 ∧ get e 1 = some (.i .i64 ((playR l m (g.drop i)).1 : Int)) ∧ (playR l m (g.drop i)).2 = true ∨ x = .ret ∧ e = [(6, .i .i64 ((playR l m (g.drop i)).1 : Int)), (7, .b false)] ∧ (playR l m (g.drop i)).2 = false)
  | 0, i, m, H, h, hm => by
    have e1 : ¬ ((i : Int) < (g.length : Int)) := by omega
    have hlen := LT_len true g
    refine ⟨.exit 0, [(0, LT true l), (1, .i .i64 (m : Int)), (2, LT true g), (8, .i .i64 (i : Int)), (14, .b false)], ?_, .inl ⟨rfl, by rw [List.drop_eq_nil_of_le (by omega)]; rfl, by rw [List.drop_eq_nil_of_le (by omega)]; rfl⟩⟩
    rw [l21_1, den_loop]
    simp [b21_0, go_nil, go_last, go_past, go_pastR, go_blkN, go_blkR, go_blkE, go_skip, go_exit, go_ret, go_scope, go_seq, go_reg, go_block, go_cond, cnd_b, go_opsN, go_ops, go_opsG, grd_b, grd_u, stp_some, fin_some, up_some, cont_some, k_call, k_mv, k_pick, k_bin, k_eqB, k_eqA, k_not, k_neg, k_conv, k_alloc, k_boxA, k_boxI, k_boxB, k_boxN, k_boxBs, k_ldR, k_ldA, k_ldI, k_ldB, k_stA, k_stI, k_stB, ldC_some, stC_some, k_mkfn, k_slc, k_slcA, k_ixA, k_ixBs, k_ixSl, k_fadr, k_fld, k_ext, k_len, k_app, k_mn, k_mx, k_nilck, k_build, k_bsl1, k_bsl2, b_add, b_sub, b_mul, b_eql, b_neq, b_lss, b_leq, b_gtr, b_geq, Dn.setLast, Dn.getLast, evalO, mapO, Dn.get, putE, keepE, TV.one, TV.isAgg, Dn.part, hlen, e1]
  | k + 1, i, m, H, h, hm => by
    obtain ⟨hn1, hn2, hl, hf⟩ := chk_ok hc
    have hi : i < g.length := by omega
    have e1 : ((i : Int) < (g.length : Int)) := by omega
    have e2 : wrapR .i64 ((i : Int) + 1) = .i .i64 ((i : Int) + 1) := wrapR_i64 (by omega)
    have hlen := LT_len true g
    have hV : elL.View H (LT true g) g := by rw [LT_lt]; exact El.lt_view _ _ _
    have hd : g.drop i = g[i] :: g.drop (i + 1) := List.drop_eq_getElem_cons hi
    rw [hd]
    have hgi : g[i]? = some g[i] := List.getElem?_eq_getElem hi
    generalize g[i] = j at hgi
    obtain ⟨p, hp, hat, _⟩ := ixL (pg := pg) (R := den pg) hV hgi
    have hld := ldL (pg := pg) (R := den pg) hat
    have c52 := fun H => Fn.call (fn52 hF hl j) (args := [LT true l, lineTV j]) (ks := []) (fs := []) (cs := []) (H := H) (by simp [snapArgs, LW_snap0, snap_line _ _ 7])
    simp only [playR]
    cases ho : ofB l j with
    | false =>
      rw [ho] at c52
      refine ⟨.ret, [(6, .i .i64 (m : Int)), (7, .b false)], ?_, .inr ⟨rfl, by simp, by simp⟩⟩
      rw [l21_1, den_loop]
      simp [b21_0, go_nil, go_last, go_past, go_pastR, go_blkN, go_blkR, go_blkE, go_skip, go_exit, go_ret, go_scope, go_seq, go_reg, go_block, go_cond, cnd_b, go_opsN, go_ops, go_opsG, grd_b, grd_u, stp_some, fin_some, up_some, cont_some, k_call, k_mv, k_pick, k_bin, k_eqB, k_eqA, k_not, k_neg, k_conv, k_alloc, k_boxA, k_boxI, k_boxB, k_boxN, k_boxBs, k_ldR, k_ldA, k_ldI, k_ldB, k_stA, k_stI, k_stB, ldC_some, stC_some, k_mkfn, k_slc, k_slcA, k_ixA, k_ixBs, k_ixSl, k_fadr, k_fld, k_ext, k_len, k_app, k_mn, k_mx, k_nilck, k_build, k_bsl1, k_bsl2, b_add, b_sub, b_mul, b_eql, b_neq, b_lss, b_leq, b_gtr, b_geq, Dn.setLast, Dn.getLast, evalO, mapO, Dn.get, putE, keepE, TV.one, TV.isAgg, Dn.part, hlen, e1, hp, hld, c52]
    | true =>
      rw [ho] at c52
      have hj := hole_of hn2 hf ho
      have c39 := fun H => Fn.call (fn39 hF hm hj) (args := [.i .i64 (m : Int), lineTV j]) (ks := []) (fs := []) (cs := []) (H := H) (by simp [snapArgs, sn_i, snap_line _ _ 7])
      cases hcan : can m j with
      | false =>
        rw [hcan] at c39
        refine ⟨.ret, [(6, .i .i64 (m : Int)), (7, .b false)], ?_, .inr ⟨rfl, by simp, by simp⟩⟩
        rw [l21_1, den_loop]
        simp [b21_0, go_nil, go_last, go_past, go_pastR, go_blkN, go_blkR, go_blkE, go_skip, go_exit, go_ret, go_scope, go_seq, go_reg, go_block, go_cond, cnd_b, go_opsN, go_ops, go_opsG, grd_b, grd_u, stp_some, fin_some, up_some, cont_some, k_call, k_mv, k_pick, k_bin, k_eqB, k_eqA, k_not, k_neg, k_conv, k_alloc, k_boxA, k_boxI, k_boxB, k_boxN, k_boxBs, k_ldR, k_ldA, k_ldI, k_ldB, k_stA, k_stI, k_stB, ldC_some, stC_some, k_mkfn, k_slc, k_slcA, k_ixA, k_ixBs, k_ixSl, k_fadr, k_fld, k_ext, k_len, k_app, k_mn, k_mx, k_nilck, k_build, k_bsl1, k_bsl2, b_add, b_sub, b_mul, b_eql, b_neq, b_lss, b_leq, b_gtr, b_geq, Dn.setLast, Dn.getLast, evalO, mapO, Dn.get, putE, keepE, TV.one, TV.isAgg, Dn.part, hlen, e1, hp, hld, c52, c39]
      | true =>
        rw [hcan] at c39
        obtain ⟨x, e, h1, h2⟩ := l21_all (pg := pg) hF hc hg k (i + 1) (leap m j) H (by omega) (leap_lt hm (by have := hj; unfold Hole3 at this; omega))
        refine ⟨x, e, Eq.trans ?_ h1, by simpa using h2⟩
        rw [l21_1, den_loop]
        simp [l21_1, b21_0, go_nil, go_last, go_past, go_pastR, go_blkN, go_blkR, go_blkE, go_skip, go_exit, go_ret, go_scope, go_seq, go_reg, go_block, go_cond, cnd_b, go_opsN, go_ops, go_opsG, grd_b, grd_u, stp_some, fin_some, up_some, cont_some, k_call, k_mv, k_pick, k_bin, k_eqB, k_eqA, k_not, k_neg, k_conv, k_alloc, k_boxA, k_boxI, k_boxB, k_boxN, k_boxBs, k_ldR, k_ldA, k_ldI, k_ldB, k_stA, k_stI, k_stB, ldC_some, stC_some, k_mkfn, k_slc, k_slcA, k_ixA, k_ixBs, k_ixSl, k_fadr, k_fld, k_ext, k_len, k_app, k_mn, k_mx, k_nilck, k_build, k_bsl1, k_bsl2, b_add, b_sub, b_mul, b_eql, b_neq, b_lss, b_leq, b_gtr, b_geq, Dn.setLast, Dn.getLast, evalO, mapO, Dn.get, putE, keepE, TV.one, TV.isAgg, Dn.part, hlen, e1, e2, hp, hld, c52, c39]

theorem fn21 {pg : Pg} (hF : Free pg) {n : Int} {l g : List Line} (hc : chk n l = 0) (hg : g.length ≤ 1000) {m : Nat} (hm : m < 65536) : Fn pg 21 [LT true l, .i .i64 (m : Int), LT true g] (.tup [.i .i64 ((playR l m g).1 : Int), .b (playR l m g).2]) := by
  obtain ⟨x, e, h1, h2⟩ := l21_all (pg := pg) hF hc hg g.length 0 m [] (by omega) hm
  simp only [Int.natCast_zero, List.drop_zero] at h1 h2
  rcases h2 with ⟨rfl, h3, h4⟩ | ⟨rfl, rfl, h4⟩
  · refine .of2 (x := .ret) (e := [(6, .i .i64 ((playR l m g).1 : Int)), (7, .b true)]) (H' := []) (hF.S _ _ (by decide)) (d := d21) (by rw [hF.F]; rfl) rfl ?_ (.inl rfl) (by rw [h4]; rfl) (by simp) (by simp [sn_i, sn_b, sn_nil, sn8_i, sn8_b, sn8_nil, sn7_i, sn7_b, sn_sl, sn8_sl, slB_some, sn_tup, sn_agg, sn8_agg, mapO, elems])
    simp [d21, c21, zipE, go_nil, go_last, go_past, go_pastR, go_blkN, go_blkR, go_blkE, go_skip, go_exit, go_ret, go_scope, go_seq, go_reg, go_block, go_cond, cnd_b, go_opsN, go_ops, go_opsG, grd_b, grd_u, stp_some, fin_some, up_some, cont_some, k_call, k_mv, k_pick, k_bin, k_eqB, k_eqA, k_not, k_neg, k_conv, k_alloc, k_boxA, k_boxI, k_boxB, k_boxN, k_boxBs, k_ldR, k_ldA, k_ldI, k_ldB, k_stA, k_stI, k_stB, ldC_some, stC_some, k_mkfn, k_slc, k_slcA, k_ixA, k_ixBs, k_ixSl, k_fadr, k_fld, k_ext, k_len, k_app, k_mn, k_mx, k_nilck, k_build, k_bsl1, k_bsl2, b_add, b_sub, b_mul, b_eql, b_neq, b_lss, b_leq, b_gtr, b_geq, Dn.setLast, Dn.getLast, evalO, mapO, Dn.get, putE, keepE, TV.one, TV.isAgg, Dn.part, go_den l21_1, h1, h3]
  · refine .of2 (x := .ret) (e := [(6, .i .i64 ((playR l m g).1 : Int)), (7, .b false)]) (H' := []) (hF.S _ _ (by decide)) (d := d21) (by rw [hF.F]; rfl) rfl ?_ (.inl rfl) (by rw [h4]; rfl) (by simp) (by simp [sn_i, sn_b, sn_nil, sn8_i, sn8_b, sn8_nil, sn7_i, sn7_b, sn_sl, sn8_sl, slB_some, sn_tup, sn_agg, sn8_agg, mapO, elems])
    simp [d21, c21, zipE, go_nil, go_last, go_past, go_pastR, go_blkN, go_blkR, go_blkE, go_skip, go_exit, go_ret, go_scope, go_seq, go_reg, go_block, go_cond, cnd_b, go_opsN, go_ops, go_opsG, grd_b, grd_u, stp_some, fin_some, up_some, cont_some, k_call, k_mv, k_pick, k_bin, k_eqB, k_eqA, k_not, k_neg, k_conv, k_alloc, k_boxA, k_boxI, k_boxB, k_boxN, k_boxBs, k_ldR, k_ldA, k_ldI, k_ldB, k_stA, k_stI, k_stB, ldC_some, stC_some, k_mkfn, k_slc, k_slcA, k_ixA, k_ixBs, k_ixSl, k_fadr, k_fld, k_ext, k_len, k_app, k_mn, k_mx, k_nilck, k_build, k_bsl1, k_bsl2, b_add, b_sub, b_mul, b_eql, b_neq, b_lss, b_leq, b_gtr, b_geq, Dn.setLast, Dn.getLast, evalO, mapO, Dn.get, putE, keepE, TV.one, TV.isAgg, Dn.part, go_den l21_1, h1]

end Go.Proofs.Try.Dn

/-
  Jumps: the program's play.
-/

namespace Go.Proofs.Try.Dn
open Go.Dn

theorem same_iff {x y : Line} : same x y = true ↔ x = y := by simp [same]

/-- the loop over jumps in Play, as an object -/
def L40 (a : Nat) (T P G N I : TV) : ALoop := { env := [(1, T), (2, P), (13, .ref (a + 1) 0), (14, .ref (a + 2) 0), (27, G), (28, N), (29, I)], params := [42, 43], assign := a40_0, body := b40_1, st := .ready, pend := none }

theorem b40_run {pg : Pg} {a m : Nat} {own j : Line} {HB : Heap} (h1 : HB[a + 1]? = some (cl own)) (h2 : HB[a + 2]? = some (.cells [.b false] false)) (hm : HB[m]? = some (cl j)) :
    den pg b40_1 [(13, .ref (a + 1) 0), (14, .ref (a + 2) 0), (16, .ref m 0)] HB = if same j own = true then some ⟨.exit 2, [], HB.set (a + 2) (.cells [.b true] false)⟩ else some ⟨.normal, [(14, .ref (a + 2) 0), (46, .b false)], HB⟩ := by
  obtain ⟨q3, _⟩ := ld_cl (pg := pg) (R := den pg) h1
  obtain ⟨r3, _⟩ := ld_cl (pg := pg) (R := den pg) hm
  have hs : dkc pg (den pg) (.st 1) [.ref (a + 2) 0, .b true] HB = some (.undef, HB.set (a + 2) (.cells [.b true] false)) := by
    rw [k_stB, h2]; rfl
  obtain ⟨j0, j1, j2⟩ := j
  obtain ⟨o0, o1, o2⟩ := own
  simp only at q3 r3
  cases c : same (j0, j1, j2) (o0, o1, o2) with
  | true =>
    rw [if_pos rfl, den_eq, runC_go]
    simp [b40_1, go_nil, go_last, go_past, go_pastR, go_blkN, go_blkR, go_blkE, go_skip, go_exit, go_ret, go_scope, go_seq, go_reg, go_block, go_cond, cnd_b, go_opsN, go_ops, go_opsG, grd_b, grd_u, stp_some, fin_some, up_some, cont_some, k_call, k_mv, k_pick, k_bin, k_eqB, k_eqA, k_not, k_neg, k_conv, k_alloc, k_boxA, k_boxI, k_boxB, k_boxN, k_boxBs, k_ldR, k_ldA, k_ldI, k_ldB, k_stA, k_stI, k_stB, ldC_some, stC_some, k_mkfn, k_slc, k_slcA, k_ixA, k_ixBs, k_ixSl, k_fadr, k_fld, k_ext, k_len, k_app, k_mn, k_mx, k_nilck, k_build, k_bsl1, k_bsl2, b_add, b_sub, b_mul, b_eql, b_neq, b_lss, b_leq, b_gtr, b_geq, Dn.setLast, Dn.getLast, evalO, mapO, Dn.get, putE, keepE, TV.one, TV.isAgg, Dn.part, q3, r3, eqL3, c, negb, hs]
  | false =>
    rw [if_neg (by decide), den_eq, runC_go]
    simp [b40_1, go_nil, go_last, go_past, go_pastR, go_blkN, go_blkR, go_blkE, go_skip, go_exit, go_ret, go_scope, go_seq, go_reg, go_block, go_cond, cnd_b, go_opsN, go_ops, go_opsG, grd_b, grd_u, stp_some, fin_some, up_some, cont_some, k_call, k_mv, k_pick, k_bin, k_eqB, k_eqA, k_not, k_neg, k_conv, k_alloc, k_boxA, k_boxI, k_boxB, k_boxN, k_boxBs, k_ldR, k_ldA, k_ldI, k_ldB, k_stA, k_stI, k_stB, ldC_some, stC_some, k_mkfn, k_slc, k_slcA, k_ixA, k_ixBs, k_ixSl, k_fadr, k_fld, k_ext, k_len, k_app, k_mn, k_mx, k_nilck, k_build, k_bsl1, k_bsl2, b_add, b_sub, b_mul, b_eql, b_neq, b_lss, b_leq, b_gtr, b_geq, Dn.setLast, Dn.getLast, evalO, mapO, Dn.get, putE, keepE, TV.one, TV.isAgg, Dn.part, q3, r3, eqL3, c, negb]

def I40 (a : Nat) (L : ALoop) (own : Line) (l : List Line) (k : Nat) (H : Heap) : Prop := H[a + 1]? = some (cl own) ∧ H[a + 2]? = some (.cells [.b false] false) ∧ H[a + 4]? = some (.loop L) ∧ ∀ i j, i < k → (js l)[i]? = some j → same j own = false
def Q40 (a : Nat) (own : Line) (l : List Line) (k : Nat) (x : Ex) (H : Heap) : Prop := x = .exit 2 ∧ H[a + 1]? = some (cl own) ∧ H[a + 2]? = some (.cells [.b true] false) ∧ ∃ j, (js l)[k]? = some j ∧ same j own = true

theorem over40 {pg : Pg} {a : Nat} {T P G N I : TV} {own : Line} {l : List Line} :
    Over pg (a + 4) (L40 a T P G N I) l (I40 a (L40 a T P G N I) own l) (Q40 a own l) where
  ready := rfl
  pend := rfl
  two := rfl
  step := by
    intro k j H X hj ⟨h1, h2, h4, hall⟩ hL
    have hlt := (List.getElem?_eq_some_iff.1 h4).1
    have hassign : den pg a40_0 [(43, lineTV j), (42, .i .i64 (k : Int)), (1, T), (2, P), (13, .ref (a + 1) 0), (14, .ref (a + 2) 0), (27, G), (28, N), (29, I)] (H ++ X) = some ⟨.normal, [(13, .ref (a + 1) 0), (14, .ref (a + 2) 0), (16, .ref (H ++ X).length 0)], H ++ X ++ [cl j]⟩ := by
      rw [den_eq, runC_go]
      generalize H ++ X = HX
      simp [a40_0, go_nil, go_last, go_past, go_pastR, go_blkN, go_blkR, go_blkE, go_skip, go_exit, go_ret, go_scope, go_seq, go_reg, go_block, go_cond, cnd_b, go_opsN, go_ops, go_opsG, grd_b, grd_u, stp_some, fin_some, up_some, cont_some, k_call, k_mv, k_pick, k_bin, k_eqB, k_eqA, k_not, k_neg, k_conv, k_alloc, k_boxA, k_boxI, k_boxB, k_boxN, k_boxBs, k_ldR, k_ldA, k_ldI, k_ldB, k_stA, k_stI, k_stB, ldC_some, stC_some, k_mkfn, k_slc, k_slcA, k_ixA, k_ixBs, k_ixSl, k_fadr, k_fld, k_ext, k_len, k_app, k_mn, k_mx, k_nilck, k_build, k_bsl1, k_bsl2, b_add, b_sub, b_mul, b_eql, b_neq, b_lss, b_leq, b_gtr, b_geq, Dn.setLast, Dn.getLast, evalO, mapO, Dn.get, putE, keepE, TV.one, TV.isAgg, Dn.part, lineTV, put2, cl]
    have hpre : ∀ (i : Nat) (o : AObj), H[i]? = some o → (H ++ X ++ [cl j])[i]? = some o := by
      intro i o h
      have := (List.getElem?_eq_some_iff.1 h).1
      rw [List.append_assoc, List.getElem?_append_left this, h]
    have hset : ∀ (i : Nat) (o : AObj), i ≠ a + 4 → (H ++ X ++ [cl j])[i]? = some o → ((H ++ X ++ [cl j]).set (a + 4) (.loop { L40 a T P G N I with st := .busy }))[i]? = some o := by
      intro i o hi h
      rw [List.getElem?_set_ne (by omega), h]
    have hB := b40_run (pg := pg) (own := own) (HB := (H ++ X ++ [cl j]).set (a + 4) (.loop { L40 a T P G N I with st := .busy })) (m := (H ++ X).length) (hset _ _ (by omega) (hpre _ _ h1)) (hset _ _ (by omega) (hpre _ _ h2)) (hset _ _ (by simp; omega) (getLast _ _))
    have h4' : (H ++ X ++ [cl j])[a + 4]? = some (.loop (L40 a T P G N I)) := hpre _ _ h4
    have hlen : a + 4 < (H ++ X ++ [cl j]).length := (List.getElem?_eq_some_iff.1 h4').1
    have hback : ((H ++ X ++ [cl j]).set (a + 4) (.loop { L40 a T P G N I with st := .busy })).set (a + 4) (.loop (L40 a T P G N I)) = H ++ X ++ [cl j] := by
      rw [List.set_set]
      apply List.ext_getElem?
      intro i
      by_cases hi : i = a + 4
      · subst hi; rw [List.getElem?_set_self hlen, h4']
      · rw [List.getElem?_set_ne (by omega)]
    cases hs : same j own with
    | false =>
      rw [hs, if_neg (by decide)] at hB
      refine ⟨.normal, H ++ X ++ [cl j], ⟨_, _, _, _, hassign, h4', hB, ?_, hback.symm⟩, ?_, .inl ⟨rfl, hpre _ _ h1, hpre _ _ h2, h4', ?_⟩⟩
      · rw [List.getElem?_set_self hlen]
      · intro i y hy
        have := (List.getElem?_eq_some_iff.1 hy).1
        rw [List.append_assoc, List.getElem?_append_right (by omega), Nat.add_sub_cancel_left, List.getElem?_append_left this, hy]
      · intro i j' hi hj'
        by_cases hik : i = k
        · subst hik; rw [hj] at hj'; cases hj'; exact hs
        · exact hall i j' (by omega) hj'
    | true =>
      rw [hs, if_pos rfl] at hB
      refine ⟨.exit 2, _, ⟨_, _, _, _, hassign, h4', hB, ?_, rfl⟩, ?_, .inr ⟨by simp, rfl, ?_, ?_, j, hj, hs⟩⟩
      · rw [List.getElem?_set_ne (by omega), List.getElem?_set_self hlen]
      · intro i y hy
        have := (List.getElem?_eq_some_iff.1 hy).1
        rw [List.getElem?_set_ne (by omega), List.getElem?_set_ne (by omega), List.getElem?_set_ne (by omega), List.append_assoc, List.getElem?_append_right (by omega), Nat.add_sub_cancel_left, List.getElem?_append_left this, hy]
      · rw [List.getElem?_set_ne (by omega), List.getElem?_set_ne (by omega)]
        exact hset _ _ (by omega) (hpre _ _ h1)
      · rw [List.getElem?_set_ne (by omega), List.getElem?_set_self (by rw [List.length_set]; omega)]

theorem not_of {l : List Line} {own : Line} (h : ∀ i j, i < 2 * l.length → (js l)[i]? = some j → same j own = false) : ofB l own = false := by
  cases ho : ofB l own with
  | false => rfl
  | true =>
    obtain ⟨i, hi, he⟩ := List.getElem_of_mem (mem_js.2 ho)
    have := h i own (by rw [js_len] at hi; exact hi) (by rw [List.getElem?_eq_getElem hi, he])
    simp [same] at this

theorem l40_round {pg : Pg} (hF : Free pg) {n : Int} {l g : List Line} (hc : chk n l = 0) {i m : Nat} {own : Line} {H : Heap} (hg : g.length ≤ 1000) (hx : g[i]? = some own) (hm : m < 65536) :
    ∃ H', den pg l40_3 [(1, LT true l), (2, .i .i64 (m : Int)), (27, LT true g), (28, .i .i64 (g.length : Int)), (29, .i .i64 (i : Int))] H =
      if (ofB l own && can m own) = true then den pg l40_3 [(1, LT true l), (2, .i .i64 (leap m own : Int)), (27, LT true g), (28, .i .i64 (g.length : Int)), (29, .i .i64 ((i + 1 : Nat) : Int))] H' else some ⟨.ret, [(8, .i .i64 0), (9, .i .i64 21)], H'⟩ := by
  obtain ⟨hn1, hn2, hl, hf⟩ := chk_ok hc
  have hi := (List.getElem?_eq_some_iff.1 hx).1
  have e1 : ((i : Int) < (g.length : Int)) := by omega
  have e2 : wrapR .i64 ((i : Int) + 1) = .i .i64 ((i : Int) + 1) := wrapR_i64 (by omega)
  have hV : elL.View H (LT true g) g := by rw [LT_lt]; exact El.lt_view _ _ _
  obtain ⟨p, hp, hat, _⟩ := ixL (pg := pg) (R := den pg) hV hx
  have hld := ldL (pg := pg) (R := den pg) hat
  have h62 := fun H => fn62 hF true l H
  have hrf := rf_jumps (pg := pg) hF (L := L40 H.length (LT true l) (.i .i64 (m : Int)) (LT true g) (.i .i64 (g.length : Int)) (.i .i64 (i : Int))) (s := .t 41)
    (e := [(1, LT true l), (2, .i .i64 (m : Int)), (13, .ref (H.length + 1) 0), (14, .ref (H.length + 2) 0), (27, LT true g), (28, .i .i64 (g.length : Int)), (29, .i .i64 (i : Int)), (41, .fn 77 [] [.ref (H.length + 3) 0])]) (ps := [42, 43]) (as_ := a40_0) (bd := b40_1) (ks := [1, 2, 13, 14, 27, 28, 29]) (bid := H.length + 3) (b := true) (l := l) (I := I40 H.length (L40 H.length (LT true l) (.i .i64 (m : Int)) (LT true g) (.i .i64 (g.length : Int)) (.i .i64 (i : Int))) own l) (Q := Q40 H.length own l)
    (H := H ++ [cl own, cl own, .cells [.b false] false, .cells [LT true l] false]) rfl (by rw [show (H ++ [cl own, cl own, .cells [.b false] false, .cells [LT true l] false]).length = H.length + 4 by simp]; exact over40) hl rfl (by simp) ⟨by simp, by simp, by simp, fun i j h => by omega⟩
  rw [show (H ++ [cl own, cl own, .cells [.b false] false, .cells [LT true l] false]).length = H.length + 4 by simp] at hrf
  obtain ⟨o0, o1, o2⟩ := own
  rcases hrf with ⟨Hf, o, ⟨h1, h2, h4, hall⟩, h5, h6⟩ | ⟨k, x, Hf, o, ⟨rfl, h1, h2, j, hj, hs⟩, h4, h5, h6⟩
  · have hno := not_of hall
    rw [hno]
    have h2' : (Hf.set (H.length + 4) (.loop o))[H.length + 2]? = some (.cells [.b false] false) := by rw [List.getElem?_set_ne (by omega), h2]
    generalize Hf.set (H.length + 4) (.loop o) = HG at h2' h6
    have hq := ld_box (pg := pg) (R := den pg) h2' rfl
    refine ⟨HG, ?_⟩
    rw [l40_3, den_loop]
    simp [cl] at h6
    simp [b40_2, go_nil, go_last, go_past, go_pastR, go_blkN, go_blkR, go_blkE, go_skip, go_exit, go_ret, go_scope, go_seq, go_reg, go_block, go_cond, cnd_b, go_opsN, go_ops, go_opsG, grd_b, grd_u, stp_some, fin_some, up_some, cont_some, k_call, k_mv, k_pick, k_bin, k_eqB, k_eqA, k_not, k_neg, k_conv, k_alloc, k_boxA, k_boxI, k_boxB, k_boxN, k_boxBs, k_ldR, k_ldA, k_ldI, k_ldB, k_stA, k_stI, k_stB, ldC_some, stC_some, k_mkfn, k_slc, k_slcA, k_ixA, k_ixBs, k_ixSl, k_fadr, k_fld, k_ext, k_len, k_app, k_mn, k_mx, k_nilck, k_build, k_bsl1, k_bsl2, b_add, b_sub, b_mul, b_eql, b_neq, b_lss, b_leq, b_gtr, b_geq, Dn.setLast, Dn.getLast, evalO, mapO, Dn.get, putE, keepE, TV.one, TV.isAgg, Dn.part, e1, hp, hld, lineTV, put2, fillP, TV.cells, sh_fn, h62, h6, hq]
  · have heq : j = (o0, o1, o2) := same_iff.1 hs
    have hyes : ofB l (o0, o1, o2) = true := mem_js.1 (by rw [← heq]; exact List.mem_of_getElem? hj)
    have hhole := hole_of hn2 hf hyes
    rw [hyes]
    have h1' : (Hf.set (H.length + 4) (.loop o))[H.length + 1]? = some (cl (o0, o1, o2)) := by rw [List.getElem?_set_ne (by omega), h1]
    have h2' : (Hf.set (H.length + 4) (.loop o))[H.length + 2]? = some (.cells [.b true] false) := by rw [List.getElem?_set_ne (by omega), h2]
    generalize Hf.set (H.length + 4) (.loop o) = HG at h1' h2' h6
    have hq := ld_box (pg := pg) (R := den pg) h2' rfl
    obtain ⟨r3, _⟩ := ld_cl (pg := pg) (R := den pg) h1'
    have c65 := fun H => Fn.call (fn65 hF hm hhole) (args := [lineTV (o0, o1, o2), .i .i64 (m : Int)]) (ks := []) (fs := []) (cs := []) (H := H) (by simp [snapArgs, sn_i, snap_line _ _ 7])
    simp only [lineTV] at c65
    refine ⟨HG, ?_⟩
    rw [l40_3, den_loop]
    simp [cl] at h6
    cases hcan : can m (o0, o1, o2) with
    | true =>
      rw [hcan] at c65
      simp [l40_3, b40_2, go_nil, go_last, go_past, go_pastR, go_blkN, go_blkR, go_blkE, go_skip, go_exit, go_ret, go_scope, go_seq, go_reg, go_block, go_cond, cnd_b, go_opsN, go_ops, go_opsG, grd_b, grd_u, stp_some, fin_some, up_some, cont_some, k_call, k_mv, k_pick, k_bin, k_eqB, k_eqA, k_not, k_neg, k_conv, k_alloc, k_boxA, k_boxI, k_boxB, k_boxN, k_boxBs, k_ldR, k_ldA, k_ldI, k_ldB, k_stA, k_stI, k_stB, ldC_some, stC_some, k_mkfn, k_slc, k_slcA, k_ixA, k_ixBs, k_ixSl, k_fadr, k_fld, k_ext, k_len, k_app, k_mn, k_mx, k_nilck, k_build, k_bsl1, k_bsl2, b_add, b_sub, b_mul, b_eql, b_neq, b_lss, b_leq, b_gtr, b_geq, Dn.setLast, Dn.getLast, evalO, mapO, Dn.get, putE, keepE, TV.one, TV.isAgg, Dn.part, e1, e2, hp, hld, lineTV, put2, fillP, TV.cells, sh_fn, h62, h6, hq, r3, c65]
    | false =>
      rw [hcan] at c65
      simp [l40_3, b40_2, go_nil, go_last, go_past, go_pastR, go_blkN, go_blkR, go_blkE, go_skip, go_exit, go_ret, go_scope, go_seq, go_reg, go_block, go_cond, cnd_b, go_opsN, go_ops, go_opsG, grd_b, grd_u, stp_some, fin_some, up_some, cont_some, k_call, k_mv, k_pick, k_bin, k_eqB, k_eqA, k_not, k_neg, k_conv, k_alloc, k_boxA, k_boxI, k_boxB, k_boxN, k_boxBs, k_ldR, k_ldA, k_ldI, k_ldB, k_stA, k_stI, k_stB, ldC_some, stC_some, k_mkfn, k_slc, k_slcA, k_ixA, k_ixBs, k_ixSl, k_fadr, k_fld, k_ext, k_len, k_app, k_mn, k_mx, k_nilck, k_build, k_bsl1, k_bsl2, b_add, b_sub, b_mul, b_eql, b_neq, b_lss, b_leq, b_gtr, b_geq, Dn.setLast, Dn.getLast, evalO, mapO, Dn.get, putE, keepE, TV.one, TV.isAgg, Dn.part, e1, e2, hp, hld, lineTV, put2, fillP, TV.cells, sh_fn, h62, h6, hq, r3, c65]

theorem l40_all {pg : Pg} (hF : Free pg) {n : Int} {l g : List Line} (hc : chk n l = 0) (hg : g.length ≤ 1000) : ∀ (k i m : Nat) (H : Heap), i + k = g.length → m < 65536 →
    ∃ x e H', den pg l40_3 [(1, LT true l), (2, .i .i64 (m : Int)), (27, LT true g), (28, .i .i64 (g.length : Int)), (29, .i .i64 (i : Int))] H = some ⟨x, e, H'⟩ ∧
      (x = .exit 0 ∧ get e 2 = some (.i .i64 ((playR l m (g.drop i)).1 : Int)) ∧ (playR l m (g.drop i)).2 = true ∨ x = .ret ∧ e = [(8, .i .i64 0), (9, .i .i64 21)] ∧ (playR l m (g.drop i)).2 = false)
  | 0, i, m, H, h, hm => by
    have e1 : ¬ ((i : Int) < (g.length : Int)) := by omega
    refine ⟨.exit 0, [(1, LT true l), (2, .i .i64 (m : Int)), (27, LT true g), (28, .i .i64 (g.length : Int)), (29, .i .i64 (i : Int)), (30, .b false)], H, ?_, .inl ⟨rfl, by rw [List.drop_eq_nil_of_le (by omega)]; rfl, by rw [List.drop_eq_nil_of_le (by omega)]; rfl⟩⟩
    rw [l40_3, den_loop]
    simp [b40_2, go_nil, go_last, go_past, go_pastR, go_blkN, go_blkR, go_blkE, go_skip, go_exit, go_ret, go_scope, go_seq, go_reg, go_block, go_cond, cnd_b, go_opsN, go_ops, go_opsG, grd_b, grd_u, stp_some, fin_some, up_some, cont_some, k_call, k_mv, k_pick, k_bin, k_eqB, k_eqA, k_not, k_neg, k_conv, k_alloc, k_boxA, k_boxI, k_boxB, k_boxN, k_boxBs, k_ldR, k_ldA, k_ldI, k_ldB, k_stA, k_stI, k_stB, ldC_some, stC_some, k_mkfn, k_slc, k_slcA, k_ixA, k_ixBs, k_ixSl, k_fadr, k_fld, k_ext, k_len, k_app, k_mn, k_mx, k_nilck, k_build, k_bsl1, k_bsl2, b_add, b_sub, b_mul, b_eql, b_neq, b_lss, b_leq, b_gtr, b_geq, Dn.setLast, Dn.getLast, evalO, mapO, Dn.get, putE, keepE, TV.one, TV.isAgg, Dn.part, e1]
  | k + 1, i, m, H, h, hm => by
    obtain ⟨hn1, hn2, hl, hf⟩ := chk_ok hc
    have hi : i < g.length := by omega
    have hd : g.drop i = g[i] :: g.drop (i + 1) := List.drop_eq_getElem_cons hi
    obtain ⟨H1, hr⟩ := l40_round (pg := pg) (H := H) hF hc hg (List.getElem?_eq_getElem hi) hm
    rw [hd]
    simp only [playR]
    cases ho : (ofB l g[i] && can m g[i]) with
    | true =>
      rw [ho, if_pos rfl] at hr
      have hof : ofB l g[i] = true := by simp at ho; exact ho.1
      have hj := hole_of hn2 hf hof
      obtain ⟨x, e, H', h1, h2⟩ := l40_all (pg := pg) hF hc hg k (i + 1) (leap m g[i]) H1 (by omega) (leap_lt hm (by have := hj; unfold Hole3 at this; omega))
      exact ⟨x, e, H', hr.trans h1, by simpa using h2⟩
    | false =>
      rw [ho, if_neg (by decide)] at hr
      exact ⟨_, _, _, hr, .inr ⟨rfl, rfl, rfl⟩⟩

/-- Play, from any position of a board -/
theorem fn40 {pg : Pg} (hF : Free pg) {n : Int} {l g : List Line} (hc : chk n l = 0) (hg : g.length ≤ 1000) {m : Nat} (hm : m < 65536) (hr : outOf n (m : Int) = false) :
    Fn pg 40 [.i .i64 n, LT true l, .i .i64 (m : Int), LT true g] (.tup [.i .i64 (if (playR l m g).2 then ((playR l m g).1 : Int) else 0), .i .i64 (if (playR l m g).2 then 0 else 21)]) := by
  have ho := opn1 hF hc (m : Int)
  rw [hr, if_neg (by decide)] at ho
  have hlen := LT_len true g
  obtain ⟨x, e, H', h1, h2⟩ := l40_all (pg := pg) hF hc hg g.length 0 m [.cells [.i .i64 (m : Int)] false] (by omega) hm
  simp only [Int.natCast_zero, List.drop_zero] at h1 h2
  rcases h2 with ⟨rfl, h3, h4⟩ | ⟨rfl, rfl, h4⟩
  · rw [h4]
    refine .of2 (x := .ret) (e := [(8, .i .i64 ((playR l m g).1 : Int)), (9, .i .i64 0)]) (H' := H') (hF.S _ _ (by decide)) (d := d40) (by rw [hF.F]; rfl) rfl ?_ (.inl rfl) rfl (by simp) (by simp [sn_i, sn_b, sn_nil, sn8_i, sn8_b, sn8_nil, sn7_i, sn7_b, sn_sl, sn8_sl, slB_some, sn_tup, sn_agg, sn8_agg, mapO, elems])
    simp [d40, c40, zipE, go_nil, go_last, go_past, go_pastR, go_blkN, go_blkR, go_blkE, go_skip, go_exit, go_ret, go_scope, go_seq, go_reg, go_block, go_cond, cnd_b, go_opsN, go_ops, go_opsG, grd_b, grd_u, stp_some, fin_some, up_some, cont_some, k_call, k_mv, k_pick, k_bin, k_eqB, k_eqA, k_not, k_neg, k_conv, k_alloc, k_boxA, k_boxI, k_boxB, k_boxN, k_boxBs, k_ldR, k_ldA, k_ldI, k_ldB, k_stA, k_stI, k_stB, ldC_some, stC_some, k_mkfn, k_slc, k_slcA, k_ixA, k_ixBs, k_ixSl, k_fadr, k_fld, k_ext, k_len, k_app, k_mn, k_mx, k_nilck, k_build, k_bsl1, k_bsl2, b_add, b_sub, b_mul, b_eql, b_neq, b_lss, b_leq, b_gtr, b_geq, Dn.setLast, Dn.getLast, evalO, mapO, Dn.get, putE, keepE, TV.one, TV.isAgg, Dn.part, ho.call1, hlen, go_denK (c := l40_3) rfl, h1, h3]
  · rw [h4]
    refine .of2 (x := .ret) (e := [(8, .i .i64 0), (9, .i .i64 21)]) (H' := H') (hF.S _ _ (by decide)) (d := d40) (by rw [hF.F]; rfl) rfl ?_ (.inl rfl) rfl (by simp) (by simp [sn_i, sn_b, sn_nil, sn8_i, sn8_b, sn8_nil, sn7_i, sn7_b, sn_sl, sn8_sl, slB_some, sn_tup, sn_agg, sn8_agg, mapO, elems])
    simp [d40, c40, zipE, go_nil, go_last, go_past, go_pastR, go_blkN, go_blkR, go_blkE, go_skip, go_exit, go_ret, go_scope, go_seq, go_reg, go_block, go_cond, cnd_b, go_opsN, go_ops, go_opsG, grd_b, grd_u, stp_some, fin_some, up_some, cont_some, k_call, k_mv, k_pick, k_bin, k_eqB, k_eqA, k_not, k_neg, k_conv, k_alloc, k_boxA, k_boxI, k_boxB, k_boxN, k_boxBs, k_ldR, k_ldA, k_ldI, k_ldB, k_stA, k_stI, k_stB, ldC_some, stC_some, k_mkfn, k_slc, k_slcA, k_ixA, k_ixBs, k_ixSl, k_fadr, k_fld, k_ext, k_len, k_app, k_mn, k_mx, k_nilck, k_build, k_bsl1, k_bsl2, b_add, b_sub, b_mul, b_eql, b_neq, b_lss, b_leq, b_gtr, b_geq, Dn.setLast, Dn.getLast, evalO, mapO, Dn.get, putE, keepE, TV.one, TV.isAgg, Dn.part, ho.call1, hlen, go_denK (c := l40_3) rfl, h1]

end Go.Proofs.Try.Dn

/-
  Jumps: the reference's list of jumps consists of a board's jumps.
-/

namespace Go.Proofs.Try.Dn
open Go.Dn

theorem insert2 {H : Heap} {out : TV} {m : List Line} {x : Line} {at_ : Nat} (ho : elL.Own H out m) (ha : at_ ≤ m.length) (hm : m.length ≤ 1000) :
    ∃ v1 v2 t1 H1 t2 H2 t3 H3, slcRun false true false 3 true out [.i .i64 (at_ : Int)] = some v1 ∧ appRun 3 true 24 .nilsl v1 H = some (t1, H1) ∧
      (∀ j, j < H.length → H1[j]? = H[j]?) ∧
      appRun 3 true 24 t1 (.sl H1.length 0 3 true 1 (some 1)) (H1 ++ [.cells [.i .i64 x.1, .i .i64 x.2.1, .i .i64 x.2.2] false]) = some (t2, H2) ∧
      slcRun true false false 3 true out [.i .i64 (at_ : Int)] = some v2 ∧ appRun 3 true 24 t2 v2 H2 = some (t3, H3) ∧ elL.Own H3 t3 (m.take at_ ++ [x] ++ m.drop at_) ∧ (∀ j, j < H.length → H3[j]? = H[j]?) ∧ (∀ id, t3.idOf = some id → H.length ≤ id) := by
  have hb1 : bounds3 false true false m.length [.i .i64 (at_ : Int)] = some (0, at_, none) := by simp [bounds3, bound]
  have hb2 : bounds3 true false false m.length [.i .i64 (at_ : Int)] = some (at_, m.length, none) := by simp [bounds3, bound, ha]
  obtain ⟨v1, s1, w1, _⟩ := ho.view.slc (Nat.zero_le _) ha hb1
  obtain ⟨v2, s2, w2, i2⟩ := ho.view.slc ha (Nat.le_refl _) hb2
  simp only [List.drop_zero] at w1
  simp only [List.take_length] at w2
  obtain ⟨t1, H1, a1, o1, l1, f1, g1⟩ := appL (H := H) (t := .nilsl) (l := []) (.inl ⟨rfl, rfl⟩) w1 (by simp; omega)
  have hf1 : ∀ j, j < H.length → H1[j]? = H[j]? := fun j hj => f1 j hj (by simp [TV.idOf])
  have hx : elL.View (H1 ++ [.cells [.i .i64 x.1, .i .i64 x.2.1, .i .i64 x.2.2] false]) (.sl H1.length 0 3 true 1 (some 1)) [x] :=
    .inr (.inr ⟨H1.length, 0, some 1, _, false, rfl, by simp, getLast _ _, by simp [elL], by simp [elL, El.flat]⟩)
  have o1' : elL.Own (H1 ++ [.cells [.i .i64 x.1, .i .i64 x.2.1, .i .i64 x.2.2] false]) t1 (m.take at_) := by
    refine o1.mono fun id h => ?_
    rw [List.getElem?_append_left (o1.lt id h)]
  obtain ⟨t2, H2, a2, o2, l2, f2, g2⟩ := appL o1' hx (by simp; omega)
  have hn1 : ∀ j, j < H.length → t1.idOf ≠ some j := by
    intro j hj
    rcases g1 with rfl | g1
    · simp [TV.idOf]
    · intro he; have := g1 j he; omega
  have hold : ∀ j, j < H.length → H2[j]? = H[j]? := by
    intro j hj
    rw [f2 j (by simp; omega) (hn1 j hj), List.getElem?_append_left (by omega), hf1 j hj]
  have w2' : elL.View H2 v2 (m.drop at_) := w2.mono fun id hid => hold id (w2.lt id hid)
  obtain ⟨t3, H3, a3, o3, l3, f3, g3⟩ := appL o2 w2' (by simp; omega)
  have hn2 : ∀ j, j < H.length → t2.idOf ≠ some j := by
    intro j hj
    rcases g2 with rfl | g2
    · exact hn1 j hj
    · intro he; have := g2 j he; simp at this; omega
  have hl2 : H.length ≤ H2.length := by simp at l2; omega
  refine ⟨v1, v2, t1, H1, t2, H2, t3, H3, s1, a1, hf1, a2, s2, a3, o3, ?_, ?_⟩
  · intro j hj
    rw [f3 j (by omega) (hn2 j hj), hold j hj]
  · intro id hid
    rcases g3 with rfl | g3
    · rcases Nat.lt_or_ge id H.length with h | h
      · exact absurd hid (hn2 id h)
      · exact h
    · have := g3 id hid; omega

theorem l38_1_round {pg : Pg} (hF : Free pg) {H : Heap} {T P out i both k : TV} {kk a : Nat} {y z : Line} {m bl : List Line} (ho : elL.View H out m) (hb : elL.View H both bl) (hk : k = .i .i64 (kk : Int)) (hy : bl[kk]? = some y) (hz : m[a]? = some z) (ha : a < 1000) :
    den pg l38_1 [(0, T), (1, P), (5, out), (6, i), (8, both), (9, k), (12, .i .i64 (a : Int))] H = if lt3 z y = true then den pg l38_1 [(0, T), (1, P), (5, out), (6, i), (8, both), (9, k), (12, .i .i64 ((a + 1 : Nat) : Int))] H else some ⟨.exit 4, [(0, T), (1, P), (5, out), (6, i), (8, both), (9, k), (12, .i .i64 (a : Int)), (62, .b false)], H⟩ := by
  have hl := (List.getElem?_eq_some_iff.1 hz).1
  have e1 : ((a : Int) < (m.length : Int)) := by omega
  have e2 : wrapR .i64 ((a : Int) + 1) = .i .i64 ((a : Int) + 1) := wrapR_i64 (by omega)
  have hlen := ho.lenK
  subst hk
  obtain ⟨p, hp, hat, _⟩ := ixL (pg := pg) (R := den pg) ho hz
  obtain ⟨q, hq, hat2, _⟩ := ixL (pg := pg) (R := den pg) hb hy
  have hld := ldL (pg := pg) (R := den pg) hat
  have hld2 := ldL (pg := pg) (R := den pg) hat2
  obtain ⟨z0, z1, z2⟩ := z
  obtain ⟨y0, y1, y2⟩ := y
  have hc := call64 hF z0 z1 z2 y0 y1 y2 H
  simp only [lineTV] at hld hld2
  cases c : lt3 (z0, z1, z2) (y0, y1, y2) with
  | true =>
    rw [c] at hc
    rw [if_pos rfl, l38_1, den_loop]
    simp [l38_1, b38_0, go_nil, go_last, go_past, go_pastR, go_blkN, go_blkR, go_blkE, go_skip, go_exit, go_ret, go_scope, go_seq, go_reg, go_block, go_cond, cnd_b, go_opsN, go_ops, go_opsG, grd_b, grd_u, stp_some, fin_some, up_some, cont_some, k_call, k_mv, k_pick, k_bin, k_eqB, k_eqA, k_not, k_neg, k_conv, k_alloc, k_boxA, k_boxI, k_boxB, k_boxN, k_boxBs, k_ldR, k_ldA, k_ldI, k_ldB, k_stA, k_stI, k_stB, ldC_some, stC_some, k_mkfn, k_slc, k_slcA, k_ixA, k_ixBs, k_ixSl, k_fadr, k_fld, k_ext, k_len, k_app, k_mn, k_mx, k_nilck, k_build, k_bsl1, k_bsl2, b_add, b_sub, b_mul, b_eql, b_neq, b_lss, b_leq, b_gtr, b_geq, Dn.setLast, Dn.getLast, evalO, mapO, Dn.get, putE, keepE, TV.one, TV.isAgg, Dn.part, hlen, e1, e2, hp, hq, hld, hld2, hc]
  | false =>
    rw [c] at hc
    rw [if_neg (by decide), l38_1, den_loop]
    simp [l38_1, b38_0, go_nil, go_last, go_past, go_pastR, go_blkN, go_blkR, go_blkE, go_skip, go_exit, go_ret, go_scope, go_seq, go_reg, go_block, go_cond, cnd_b, go_opsN, go_ops, go_opsG, grd_b, grd_u, stp_some, fin_some, up_some, cont_some, k_call, k_mv, k_pick, k_bin, k_eqB, k_eqA, k_not, k_neg, k_conv, k_alloc, k_boxA, k_boxI, k_boxB, k_boxN, k_boxBs, k_ldR, k_ldA, k_ldI, k_ldB, k_stA, k_stI, k_stB, ldC_some, stC_some, k_mkfn, k_slc, k_slcA, k_ixA, k_ixBs, k_ixSl, k_fadr, k_fld, k_ext, k_len, k_app, k_mn, k_mx, k_nilck, k_build, k_bsl1, k_bsl2, b_add, b_sub, b_mul, b_eql, b_neq, b_lss, b_leq, b_gtr, b_geq, Dn.setLast, Dn.getLast, evalO, mapO, Dn.get, putE, keepE, TV.one, TV.isAgg, Dn.part, hlen, e1, e2, hp, hq, hld, hld2, hc]

theorem l38_1_all {pg : Pg} (hF : Free pg) {H : Heap} {T P out i both k : TV} {kk : Nat} {y : Line} {m bl : List Line} (ho : elL.View H out m) (hb : elL.View H both bl) (hk : k = .i .i64 (kk : Int)) (hy : bl[kk]? = some y) (hm : m.length < 1000) : ∀ (r a : Nat), a + r = m.length →
    ∃ a' : Nat, a' ≤ m.length ∧ den pg l38_1 [(0, T), (1, P), (5, out), (6, i), (8, both), (9, k), (12, .i .i64 (a : Int))] H = some ⟨.exit 4, [(0, T), (1, P), (5, out), (6, i), (8, both), (9, k), (12, .i .i64 (a' : Int)), (62, .b false)], H⟩
  | 0, a, h => by
    have e1 : ¬ ((a : Int) < (m.length : Int)) := by omega
    have hlen := ho.lenK
    refine ⟨a, by omega, ?_⟩
    rw [l38_1, den_loop]
    simp [b38_0, go_nil, go_last, go_past, go_pastR, go_blkN, go_blkR, go_blkE, go_skip, go_exit, go_ret, go_scope, go_seq, go_reg, go_block, go_cond, cnd_b, go_opsN, go_ops, go_opsG, grd_b, grd_u, stp_some, fin_some, up_some, cont_some, k_call, k_mv, k_pick, k_bin, k_eqB, k_eqA, k_not, k_neg, k_conv, k_alloc, k_boxA, k_boxI, k_boxB, k_boxN, k_boxBs, k_ldR, k_ldA, k_ldI, k_ldB, k_stA, k_stI, k_stB, ldC_some, stC_some, k_mkfn, k_slc, k_slcA, k_ixA, k_ixBs, k_ixSl, k_fadr, k_fld, k_ext, k_len, k_app, k_mn, k_mx, k_nilck, k_build, k_bsl1, k_bsl2, b_add, b_sub, b_mul, b_eql, b_neq, b_lss, b_leq, b_gtr, b_geq, Dn.setLast, Dn.getLast, evalO, mapO, Dn.get, putE, keepE, TV.one, TV.isAgg, Dn.part, hlen, e1]
  | r + 1, a, h => by
    have ha : a < m.length := by omega
    have hr := l38_1_round (pg := pg) (T := T) (P := P) (i := i) hF ho hb hk hy (List.getElem?_eq_getElem ha) (by omega)
    by_cases c : lt3 m[a] y = true
    · rw [if_pos c] at hr
      obtain ⟨a', h1, h2⟩ := l38_1_all (T := T) (P := P) (i := i) hF ho hb hk hy hm r (a + 1) (by omega)
      exact ⟨a', h1, hr.trans h2⟩
    · rw [if_neg c] at hr
      exact ⟨a, by omega, hr⟩

theorem l38_3_round {pg : Pg} (hF : Free pg) {n : Int} {l : List Line} (hc : chk n l = 0) {H : Heap} {T out i both : TV} {p kk : Nat} {y : Line} {m bl : List Line} (hp : p < 65536) (ho : elL.Own H out m) (hb : elL.View H both bl) (hk : kk < 2) (hy : bl[kk]? = some y) (hyj : y ∈ js l) (hm : m.length < 900) (hmj : ∀ z ∈ m, z ∈ js l) (hne : ∀ id, both.idOf = some id → out.idOf ≠ some id) :
    ∃ out' m' H', den pg l38_3 [(0, T), (1, .i .i64 (p : Int)), (5, out), (6, i), (8, both), (9, .i .i64 (kk : Int))] H = den pg l38_3 [(0, T), (1, .i .i64 (p : Int)), (5, out'), (6, i), (8, both), (9, .i .i64 ((kk + 1 : Nat) : Int))] H' ∧ elL.Own H' out' m' ∧ elL.View H' both bl ∧ (∀ z ∈ m', z ∈ js l) ∧ m'.length ≤ m.length + 1 ∧ H.length ≤ H'.length ∧ (∀ id, both.idOf = some id → out'.idOf ≠ some id) ∧ (∀ z, z ∈ m' ↔ z ∈ m ∨ z = y ∧ can p y = true) := by
  obtain ⟨hn1, hn2, hl, hf⟩ := chk_ok hc
  have e1 : ((kk : Int) < 2) := by omega
  have e2 : wrapR .i64 ((kk : Int) + 1) = .i .i64 ((kk : Int) + 1) := wrapR_i64 (by omega)
  have hhole : Hole3 y := Hole3.of hn2 (js_fits hf y hyj)
  obtain ⟨q, hq, hat, _⟩ := ixL (pg := pg) (R := den pg) hb hy
  have hld := ldL (pg := pg) (R := den pg) hat
  have c39 := fun H => Fn.call (fn39 hF hp hhole) (args := [.i .i64 (p : Int), lineTV y]) (ks := []) (fs := []) (cs := []) (H := H) (by simp [snapArgs, sn_i, snap_line _ _ 7])
  cases hcan : can p y with
  | false =>
    rw [hcan] at c39
    refine ⟨out, m, H, ?_, ho, hb, hmj, by omega, Nat.le_refl _, hne, fun z => by simp [hcan]⟩
    rw [l38_3, den_loop]
    simp [l38_3, b38_2, go_nil, go_last, go_past, go_pastR, go_blkN, go_blkR, go_blkE, go_skip, go_exit, go_ret, go_scope, go_seq, go_reg, go_block, go_cond, cnd_b, go_opsN, go_ops, go_opsG, grd_b, grd_u, stp_some, fin_some, up_some, cont_some, k_call, k_mv, k_pick, k_bin, k_eqB, k_eqA, k_not, k_neg, k_conv, k_alloc, k_boxA, k_boxI, k_boxB, k_boxN, k_boxBs, k_ldR, k_ldA, k_ldI, k_ldB, k_stA, k_stI, k_stB, ldC_some, stC_some, k_mkfn, k_slc, k_slcA, k_ixA, k_ixBs, k_ixSl, k_fadr, k_fld, k_ext, k_len, k_app, k_mn, k_mx, k_nilck, k_build, k_bsl1, k_bsl2, b_add, b_sub, b_mul, b_eql, b_neq, b_lss, b_leq, b_gtr, b_geq, Dn.setLast, Dn.getLast, evalO, mapO, Dn.get, putE, keepE, TV.one, TV.isAgg, Dn.part, e1, e2, hq, hld, c39]
  | true =>
    rw [hcan] at c39
    obtain ⟨a, ha, hloop⟩ := l38_1_all (pg := pg) (T := T) (P := .i .i64 (p : Int)) (i := i) hF ho.view hb rfl hy (by omega) m.length 0 (by omega)
    obtain ⟨v1, v2, t1, H1, t2, H2, t3, H3, s1, a1, hf1, a2, s2, a3, o3, hf3, hid3⟩ := insert2 (x := y) ho ha (by omega)
    have hb1 : elL.View H1 both bl := hb.mono fun id h => hf1 id (hb.lt id h)
    obtain ⟨q1, hq1, hat1, _⟩ := ixL (pg := pg) (R := den pg) hb1 hy
    have hld1 := ldL (pg := pg) (R := den pg) hat1
    have hbs := fun H => k_bslL (pg := pg) (R := den pg) y H
    have hl3 : H.length ≤ H3.length := by
      rcases Nat.lt_or_ge H3.length H.length with h | h
      · exfalso
        have := hf3 H3.length h
        rw [List.getElem?_eq_none (Nat.le_refl _)] at this
        rw [List.getElem?_eq_getElem h] at this
        cases this
      · exact h
    simp only [Int.natCast_zero] at hloop
    refine ⟨t3, m.take a ++ [y] ++ m.drop a, H3, ?_, o3, hb.mono fun id h => hf3 id (hb.lt id h), ?_, by simp; omega, hl3, ?_, ?_⟩
    · rw [l38_3, den_loop]
      simp [l38_3, b38_2, go_nil, go_last, go_past, go_pastR, go_blkN, go_blkR, go_blkE, go_skip, go_exit, go_ret, go_scope, go_seq, go_reg, go_block, go_cond, cnd_b, go_opsN, go_ops, go_opsG, grd_b, grd_u, stp_some, fin_some, up_some, cont_some, k_call, k_mv, k_pick, k_bin, k_eqB, k_eqA, k_not, k_neg, k_conv, k_alloc, k_boxA, k_boxI, k_boxB, k_boxN, k_boxBs, k_ldR, k_ldA, k_ldI, k_ldB, k_stA, k_stI, k_stB, ldC_some, stC_some, k_mkfn, k_slc, k_slcA, k_ixA, k_ixBs, k_ixSl, k_fadr, k_fld, k_ext, k_len, k_app, k_mn, k_mx, k_nilck, k_build, k_bsl1, k_bsl2, b_add, b_sub, b_mul, b_eql, b_neq, b_lss, b_leq, b_gtr, b_geq, Dn.setLast, Dn.getLast, evalO, mapO, Dn.get, putE, keepE, TV.one, TV.isAgg, Dn.part, e1, e2, hq, hld, c39, go_denK (c := l38_1) rfl, hloop, s1, a1, hq1, hld1, hbs, a2, s2, a3]
    · intro z hz
      simp only [List.append_assoc, List.mem_append, List.mem_singleton] at hz
      rcases hz with hz | rfl | hz
      · exact hmj z (List.mem_of_mem_take hz)
      · exact hyj
      · exact hmj z (List.mem_of_mem_drop hz)
    · intro id hid he
      have h1 := hb.lt id hid
      have h2 := hid3 id he
      omega
    · intro z
      simp only [List.append_assoc, List.mem_append, List.mem_singleton, hcan, and_true]
      rw [← List.take_append_drop a m, List.mem_append]
      simp only [List.take_append_drop]
      constructor
      · rintro (h | h | h)
        · exact .inl (.inl h)
        · exact .inr h
        · exact .inl (.inr h)
      · rintro ((h | h) | h)
        · exact .inl h
        · exact .inr (.inr h)
        · exact .inr (.inl h)

theorem k_bsl2L {pg : Pg} {R : Rec} (x y : Line) (H : Heap) : dkc pg R (.bsl false [.i .i64 0, .i .i64 0, .i .i64 0] true 2 [0, 1]) [.agg [.i .i64 x.1, .i .i64 x.2.1, .i .i64 x.2.2], .agg [.i .i64 y.1, .i .i64 y.2.1, .i .i64 y.2.2]] H = some (.sl H.length 0 3 true 2 (some 2), H ++ [.cells [.i .i64 x.1, .i .i64 x.2.1, .i .i64 x.2.2, .i .i64 y.1, .i .i64 y.2.1, .i .i64 y.2.2] false]) := by
  simp [dkc, dk, fillP, repl, put2, TV.cells, TV.one, List.replicate]

theorem l38_5_round {pg : Pg} (hF : Free pg) {n : Int} {l : List Line} (hc : chk n l = 0) {H : Heap} {out : TV} {p i : Nat} {x : Line} {m : List Line} (hp : p < 65536) (hi : l[i]? = some x) (ho : elL.Own H out m) (hm : m.length ≤ 2 * i) (hmj : ∀ z ∈ m, z ∈ js l) :
    ∃ out' m' H', den pg l38_5 [(0, LT true l), (1, .i .i64 (p : Int)), (5, out), (6, .i .i64 (i : Int))] H = den pg l38_5 [(0, LT true l), (1, .i .i64 (p : Int)), (5, out'), (6, .i .i64 ((i + 1 : Nat) : Int))] H' ∧ elL.Own H' out' m' ∧ (∀ z ∈ m', z ∈ js l) ∧ m'.length ≤ 2 * (i + 1) ∧ (∀ z, z ∈ m' ↔ (z ∈ m ∨ z = x ∧ can p x = true) ∨ z = rev x ∧ can p (rev x) = true) := by
  obtain ⟨hn1, hn2, hl, hf⟩ := chk_ok hc
  have hil := (List.getElem?_eq_some_iff.1 hi).1
  have e1 : ((i : Int) < (l.length : Int)) := by omega
  have e2 : wrapR .i64 ((i : Int) + 1) = .i .i64 ((i : Int) + 1) := wrapR_i64 (by omega)
  have hlen := LT_len true l
  have hV : elL.View H (LT true l) l := by rw [LT_lt]; exact El.lt_view _ _ _
  obtain ⟨q, hq, hat, _⟩ := ixL (pg := pg) (R := den pg) hV hi
  have hld := ldL (pg := pg) (R := den pg) hat
  obtain ⟨j0, j1⟩ := js_even l i x hi
  have hx0 := List.mem_of_getElem? j0
  have hx1 := List.mem_of_getElem? j1
  have hbs := fun H => k_bsl2L (pg := pg) (R := den pg) x (rev x) H
  let HA : Heap := H ++ [cl x] ++ [.cells [.i .i64 x.1, .i .i64 x.2.1, .i .i64 x.2.2, .i .i64 (rev x).1, .i .i64 (rev x).2.1, .i .i64 (rev x).2.2] false]
  have hboth : elL.View HA (.sl (H.length + 1) 0 3 true 2 (some 2)) [x, rev x] := by
    refine .inr (.inr ⟨H.length + 1, 0, some 2, [.i .i64 x.1, .i .i64 x.2.1, .i .i64 x.2.2, .i .i64 (rev x).1, .i .i64 (rev x).2.1, .i .i64 (rev x).2.2], false, rfl, by simp, ?_, by simp [elL], by simp [elL, El.flat]⟩)
    have := getLast (H ++ [cl x]) (.cells [.i .i64 x.1, .i .i64 x.2.1, .i .i64 x.2.2, .i .i64 (rev x).1, .i .i64 (rev x).2.1, .i .i64 (rev x).2.2] false)
    rw [List.length_append] at this
    exact this
  have hoA : elL.Own HA out m := ho.mono fun id h => by
    have := ho.lt id h
    show (H ++ [cl x] ++ _)[id]? = _
    rw [List.append_assoc, List.getElem?_append_left this]
  have hneA : ∀ id, (TV.sl (H.length + 1) 0 3 true 2 (some 2)).idOf = some id → out.idOf ≠ some id := by
    intro id h he
    cases h
    have := ho.lt _ he
    omega
  obtain ⟨out1, m1, H1, r1, o1, b1, mj1, ml1, hl1, hne1, mi1⟩ := l38_3_round (T := LT true l) (i := .i .i64 (i : Int)) hF hc hp hoA hboth (kk := 0) (by omega) rfl hx0 (by omega) hmj hneA
  obtain ⟨out2, m2, H2, r2, o2, b2, mj2, ml2, hl2, hne2, mi2⟩ := l38_3_round (T := LT true l) (i := .i .i64 (i : Int)) hF hc hp o1 b1 (kk := 1) (by omega) rfl hx1 (by omega) mj1 hne1
  have r3 : den pg l38_3 [(0, LT true l), (1, .i .i64 (p : Int)), (5, out2), (6, .i .i64 (i : Int)), (8, .sl (H.length + 1) 0 3 true 2 (some 2)), (9, .i .i64 2)] H2 = some ⟨.exit 2, [(0, LT true l), (1, .i .i64 (p : Int)), (5, out2), (6, .i .i64 (i : Int)), (8, .sl (H.length + 1) 0 3 true 2 (some 2)), (9, .i .i64 2), (34, .b false)], H2⟩ := by
    rw [l38_3, den_loop]
    simp [b38_2, go_nil, go_last, go_past, go_pastR, go_blkN, go_blkR, go_blkE, go_skip, go_exit, go_ret, go_scope, go_seq, go_reg, go_block, go_cond, cnd_b, go_opsN, go_ops, go_opsG, grd_b, grd_u, stp_some, fin_some, up_some, cont_some, k_call, k_mv, k_pick, k_bin, k_eqB, k_eqA, k_not, k_neg, k_conv, k_alloc, k_boxA, k_boxI, k_boxB, k_boxN, k_boxBs, k_ldR, k_ldA, k_ldI, k_ldB, k_stA, k_stI, k_stB, ldC_some, stC_some, k_mkfn, k_slc, k_slcA, k_ixA, k_ixBs, k_ixSl, k_fadr, k_fld, k_ext, k_len, k_app, k_mn, k_mx, k_nilck, k_build, k_bsl1, k_bsl2, b_add, b_sub, b_mul, b_eql, b_neq, b_lss, b_leq, b_gtr, b_geq, Dn.setLast, Dn.getLast, evalO, mapO, Dn.get, putE, keepE, TV.one, TV.isAgg, Dn.part]
  have hr := r1.trans (r2.trans r3)
  refine ⟨out2, m2, H2, ?_, o2, mj2, by omega, fun z => by rw [mi2, mi1]⟩
  rw [l38_5, den_loop]
  simp only [HA, cl, Int.natCast_zero, List.append_assoc, List.cons_append, List.nil_append] at hr
  simp only [rev] at hbs hr
  simp [l38_5, b38_4, go_nil, go_last, go_past, go_pastR, go_blkN, go_blkR, go_blkE, go_skip, go_exit, go_ret, go_scope, go_seq, go_reg, go_block, go_cond, cnd_b, go_opsN, go_ops, go_opsG, grd_b, grd_u, stp_some, fin_some, up_some, cont_some, k_call, k_mv, k_pick, k_bin, k_eqB, k_eqA, k_not, k_neg, k_conv, k_alloc, k_boxA, k_boxI, k_boxB, k_boxN, k_boxBs, k_ldR, k_ldA, k_ldI, k_ldB, k_stA, k_stI, k_stB, ldC_some, stC_some, k_mkfn, k_slc, k_slcA, k_ixA, k_ixBs, k_ixSl, k_fadr, k_fld, k_ext, k_len, k_app, k_mn, k_mx, k_nilck, k_build, k_bsl1, k_bsl2, b_add, b_sub, b_mul, b_eql, b_neq, b_lss, b_leq, b_gtr, b_geq, Dn.setLast, Dn.getLast, evalO, mapO, Dn.get, putE, keepE, TV.one, TV.isAgg, Dn.part, hlen, e1, e2, hq, hld, lineTV, put2, fillP, TV.cells, hbs, go_denK (c := l38_3) rfl, hr]


theorem js_take {l : List Line} {i : Nat} {x : Line} (h : l[i]? = some x) : js (l.take (i + 1)) = js (l.take i) ++ [x, rev x] := by
  have happ : ∀ a b : List Line, js (a ++ b) = js a ++ js b := by
    intro a b
    induction a with
    | nil => rfl
    | cons y a ih => simp [js, ih]
  rw [List.take_add_one, h, happ]
  rfl

theorem l38_5_all {pg : Pg} (hF : Free pg) {n : Int} {l : List Line} (hc : chk n l = 0) {p : Nat} (hp : p < 65536) : ∀ (k i : Nat) (H : Heap) (out : TV) (m : List Line), i + k = l.length → elL.Own H out m → m.length ≤ 2 * i → (∀ z ∈ m, z ∈ js l) → (∀ z, z ∈ m ↔ z ∈ js (l.take i) ∧ can p z = true) →
    ∃ out' m' H' e, den pg l38_5 [(0, LT true l), (1, .i .i64 (p : Int)), (5, out), (6, .i .i64 (i : Int))] H = some ⟨.exit 0, e, H'⟩ ∧ get e 5 = some out' ∧ elL.Own H' out' m' ∧ (∀ z, z ∈ m' ↔ z ∈ js l ∧ can p z = true) ∧ m'.length ≤ 80
  | 0, i, H, out, m, h, ho, hm, hmj, hmi => by
    obtain ⟨_, _, hl, _⟩ := chk_ok hc
    have e1 : ¬ ((i : Int) < (l.length : Int)) := by omega
    have hlen := LT_len true l
    refine ⟨out, m, H, [(0, LT true l), (1, .i .i64 (p : Int)), (5, out), (6, .i .i64 (i : Int)), (17, .b false)], ?_, rfl, ho, ?_, by omega⟩
    · rw [l38_5, den_loop]
      simp [b38_4, go_nil, go_last, go_past, go_pastR, go_blkN, go_blkR, go_blkE, go_skip, go_exit, go_ret, go_scope, go_seq, go_reg, go_block, go_cond, cnd_b, go_opsN, go_ops, go_opsG, grd_b, grd_u, stp_some, fin_some, up_some, cont_some, k_call, k_mv, k_pick, k_bin, k_eqB, k_eqA, k_not, k_neg, k_conv, k_alloc, k_boxA, k_boxI, k_boxB, k_boxN, k_boxBs, k_ldR, k_ldA, k_ldI, k_ldB, k_stA, k_stI, k_stB, ldC_some, stC_some, k_mkfn, k_slc, k_slcA, k_ixA, k_ixBs, k_ixSl, k_fadr, k_fld, k_ext, k_len, k_app, k_mn, k_mx, k_nilck, k_build, k_bsl1, k_bsl2, b_add, b_sub, b_mul, b_eql, b_neq, b_lss, b_leq, b_gtr, b_geq, Dn.setLast, Dn.getLast, evalO, mapO, Dn.get, putE, keepE, TV.one, TV.isAgg, Dn.part, hlen, e1]
    · intro z; rw [hmi, List.take_of_length_le (by omega)]
  | k + 1, i, H, out, m, h, ho, hm, hmj, hmi => by
    have hx : l[i]? = some l[i] := List.getElem?_eq_getElem (by omega : i < l.length)
    obtain ⟨out1, m1, H1, r1, o1, mj1, ml1, mi1⟩ := l38_5_round (pg := pg) hF hc hp hx ho hm hmj
    obtain ⟨out', m', H', e, r2, rest⟩ := l38_5_all hF hc hp k (i + 1) H1 out1 m1 (by omega) o1 ml1 mj1 (by
      intro z
      rw [mi1, hmi, js_take hx, List.mem_append]
      simp only [List.mem_cons, List.not_mem_nil, or_false]
      constructor
      · rintro ((⟨h1, h2⟩ | ⟨rfl, h2⟩) | ⟨rfl, h2⟩)
        · exact ⟨.inl h1, h2⟩
        · exact ⟨.inr (.inl rfl), h2⟩
        · exact ⟨.inr (.inr rfl), h2⟩
      · rintro ⟨h1 | h1 | h1, h2⟩
        · exact .inl (.inl ⟨h1, h2⟩)
        · subst h1; exact .inl (.inr ⟨rfl, h2⟩)
        · subst h1; exact .inr ⟨rfl, h2⟩)
    exact ⟨out', m', H', e, r1.trans r2, rest⟩

/-- the jumps that the reference lists are those that can be made -/
theorem fn38i {pg : Pg} (hF : Free pg) {n : Int} {l : List Line} (hc : chk n l = 0) {p : Nat} (hp : p < 65536) : ∃ J, (∀ z, z ∈ J ↔ z ∈ js l ∧ can p z = true) ∧ J.length ≤ 80 ∧ Fn pg 38 [LT true l, .i .i64 (p : Int)] (LT false J) := by
  obtain ⟨out, J, H', e, h1, h2, ho, hj, hlen⟩ := l38_5_all (pg := pg) hF hc hp l.length 0 [] .nilsl [] (by omega) (.inl ⟨rfl, rfl⟩) (by simp) (by simp) (by intro z; simp [js])
  simp only [Int.natCast_zero] at h1
  refine ⟨J, hj, hlen, ?_⟩
  refine .of_go (x := .ret) (e := [(4, out)]) (H' := H') (vs := [out]) (hF.S _ _ (by decide)) (d := d38) (by rw [hF.F]; rfl) rfl ?_ (.inl rfl) rfl (by rw [LT_lt]; exact ho.fin elL_flat)
  simp [d38, c38, zipE, go_nil, go_last, go_past, go_pastR, go_blkN, go_blkR, go_blkE, go_skip, go_exit, go_ret, go_scope, go_seq, go_reg, go_block, go_cond, cnd_b, go_opsN, go_ops, go_opsG, grd_b, grd_u, stp_some, fin_some, up_some, cont_some, k_call, k_mv, k_pick, k_bin, k_eqB, k_eqA, k_not, k_neg, k_conv, k_alloc, k_boxA, k_boxI, k_boxB, k_boxN, k_boxBs, k_ldR, k_ldA, k_ldI, k_ldB, k_stA, k_stI, k_stB, ldC_some, stC_some, k_mkfn, k_slc, k_slcA, k_ixA, k_ixBs, k_ixSl, k_fadr, k_fld, k_ext, k_len, k_app, k_mn, k_mx, k_nilck, k_build, k_bsl1, k_bsl2, b_add, b_sub, b_mul, b_eql, b_neq, b_lss, b_leq, b_gtr, b_geq, Dn.setLast, Dn.getLast, evalO, mapO, Dn.get, putE, keepE, TV.one, TV.isAgg, Dn.part, go_denK (c := l38_5) rfl, h1, h2]

theorem fn38 {pg : Pg} (hF : Free pg) {n : Int} {l : List Line} (hc : chk n l = 0) {p : Nat} (hp : p < 65536) : ∃ J, (∀ z ∈ J, z ∈ js l) ∧ J.length ≤ 80 ∧ Fn pg 38 [LT true l, .i .i64 (p : Int)] (LT false J) := by
  obtain ⟨J, h1, h2⟩ := fn38i (pg := pg) hF hc hp
  exact ⟨J, fun z hz => ((h1 z).1 hz).1, h2⟩

end Go.Proofs.Try.Dn

/-
  PegPlays: the statement's rounds, and the whole run.
-/

namespace Go.Proofs.Try.Dn
open Go.Dn

/-- a number modulo a length, as an index -/
theorem idx_of {S : Int} {k : Nat} (h0 : 0 < k) (hk : k ≤ 1000) : ∃ i : Nat, i < k ∧ binI .rem (.i .u64 (IntKind.wrap .u64 S)) (.i .u64 (k : Int)) = some (.i .u64 (i : Int)) := by
  have hs : 0 ≤ IntKind.wrap .u64 S := by simp [IntKind.wrap, IntKind.signed, IntKind.bits]; omega
  refine ⟨(IntKind.wrap .u64 S % (k : Int)).toNat, ?_, ?_⟩
  · have := Int.emod_lt_of_pos (IntKind.wrap .u64 S) (by omega : (0 : Int) < k)
    have := Int.emod_nonneg (IntKind.wrap .u64 S) (by omega : (k : Int) ≠ 0)
    omega
  · rw [b_rem, if_neg (by omega), Int.tmod_eq_emod_of_nonneg hs]
    have := Int.emod_nonneg (IntKind.wrap .u64 S) (by omega : (k : Int) ≠ 0)
    congr 2
    omega

theorem l10_1_all {pg : Pg} (hF : Free pg) {n : Int} {l : List Line} (hc : chk n l = 0) {P R G : TV} {g : List Line} (hg : g.length ≤ 20) : ∀ (k i m : Nat) (H : Heap) (t : TV) (ns : List Line), i + k = g.length → m < 65536 → elL.Own H G g → elL.Own H t ns → ns.length ≤ i → (∀ id, G.idOf = some id → t.idOf ≠ some id) →
    ∃ e H' t' ns', den pg l10_1 [(0, .i .i64 n), (7, LT false l), (8, P), (9, G), (10, R), (15, .i .i64 (m : Int)), (16, t), (17, .i .i64 (i : Int))] H = some ⟨.exit 2, e, H'⟩ ∧ get e 0 = some (.i .i64 n) ∧ get e 7 = some (LT false l) ∧ get e 8 = some P ∧ get e 10 = some R ∧ get e 16 = some t' ∧ elL.Own H' t' ns' ∧ ns'.length ≤ 20
  | 0, i, m, H, t, ns, h, hm, hG, ho, hns, hne => by
    have e1 : ¬ ((i : Int) < (g.length : Int)) := by omega
    have hlen := hG.view.lenK
    refine ⟨[(0, .i .i64 n), (7, LT false l), (8, P), (9, G), (10, R), (15, .i .i64 (m : Int)), (16, t), (17, .i .i64 (i : Int)), (87, .b false)], H, t, ns, ?_, rfl, rfl, rfl, rfl, rfl, ho, by omega⟩
    rw [l10_1, den_loop]
    simp [b10_0, go_nil, go_last, go_past, go_pastR, go_blkN, go_blkR, go_blkE, go_skip, go_exit, go_ret, go_scope, go_seq, go_reg, go_block, go_cond, cnd_b, go_opsN, go_ops, go_opsG, grd_b, grd_u, stp_some, fin_some, up_some, cont_some, k_call, k_mv, k_pick, k_bin, k_eqB, k_eqA, k_not, k_neg, k_conv, k_alloc, k_boxA, k_boxI, k_boxB, k_boxN, k_boxBs, k_ldR, k_ldA, k_ldI, k_ldB, k_stA, k_stI, k_stB, ldC_some, stC_some, k_mkfn, k_slc, k_slcA, k_ixA, k_ixBs, k_ixSl, k_fadr, k_fld, k_ext, k_len, k_app, k_mn, k_mx, k_nilck, k_build, k_bsl1, k_bsl2, b_add, b_sub, b_mul, b_eql, b_neq, b_lss, b_leq, b_gtr, b_geq, Dn.setLast, Dn.getLast, evalO, mapO, Dn.get, putE, keepE, TV.one, TV.isAgg, Dn.part, hlen, e1]
  | k + 1, i, m, H, t, ns, h, hm, hG, ho, hns, hne => by
    obtain ⟨hn1, hn2, hl, hf⟩ := chk_ok hc
    have hi : i < g.length := by omega
    have e1 : ((i : Int) < (g.length : Int)) := by omega
    have e2 : wrapR .i64 ((i : Int) + 1) = .i .i64 ((i : Int) + 1) := wrapR_i64 (by omega)
    have hlen := hG.view.lenK
    obtain ⟨J, hJ, hJl, f38⟩ := fn38 (pg := pg) hF hc hm
    have c38 := fun H => Fn.call f38 (args := [LT false l, .i .i64 (m : Int)]) (ks := []) (fs := []) (cs := []) (H := H) (by simp [snapArgs, sn_i, LW_snap0])
    have hlJ := LT_len false J
    by_cases hJ0 : J = []
    · subst hJ0
      have hl0 : ∀ H, lenK 0 (LT false []) H = some 0 := LT_len false []
      refine ⟨[(0, .i .i64 n), (7, LT false l), (8, P), (9, G), (10, R), (15, .i .i64 (m : Int)), (16, t), (17, .i .i64 (i : Int)), (18, LT false []), (95, .b true)], H, t, ns, ?_, rfl, rfl, rfl, rfl, rfl, ho, by omega⟩
      rw [l10_1, den_loop]
      simp [b10_0, go_nil, go_last, go_past, go_pastR, go_blkN, go_blkR, go_blkE, go_skip, go_exit, go_ret, go_scope, go_seq, go_reg, go_block, go_cond, cnd_b, go_opsN, go_ops, go_opsG, grd_b, grd_u, stp_some, fin_some, up_some, cont_some, k_call, k_mv, k_pick, k_bin, k_eqB, k_eqA, k_not, k_neg, k_conv, k_alloc, k_boxA, k_boxI, k_boxB, k_boxN, k_boxBs, k_ldR, k_ldA, k_ldI, k_ldB, k_stA, k_stI, k_stB, ldC_some, stC_some, k_mkfn, k_slc, k_slcA, k_ixA, k_ixBs, k_ixSl, k_fadr, k_fld, k_ext, k_len, k_app, k_mn, k_mx, k_nilck, k_build, k_bsl1, k_bsl2, b_add, b_sub, b_mul, b_eql, b_neq, b_lss, b_leq, b_gtr, b_geq, Dn.setLast, Dn.getLast, evalO, mapO, Dn.get, putE, keepE, TV.one, TV.isAgg, Dn.part, hlen, e1, c38, hl0]
    · have hJn : 0 < J.length := List.length_pos_iff.2 hJ0
      have hJne : ((J.length : Int) == 0) = false := by simp [hJ0]
      have hgi : g[i]? = some g[i] := List.getElem?_eq_getElem hi
      generalize g[i] = x at hgi
      obtain ⟨q, hq, hat, _⟩ := ixL (pg := pg) (R := den pg) hG.view hgi
      obtain ⟨q0, hq0, hr0⟩ := cellL (pg := pg) (R := den pg) hat (j := 0) (v := .i .i64 x.1) rfl
      obtain ⟨q1, hq1, hr1⟩ := cellL (pg := pg) (R := den pg) hat (j := 1) (v := .i .i64 x.2.1) rfl
      simp only [Int.cast_ofNat_Int, Int.natCast_zero, Int.natCast_one] at hq0 hq1
      have e9 : wrapR .i64 (x.1 + x.2.1) = .i .i64 (IntKind.wrap .i64 (x.1 + x.2.1)) := rfl
      have e10 : wrapR .u64 (IntKind.wrap .i64 (x.1 + x.2.1)) = .i .u64 (IntKind.wrap .u64 (IntKind.wrap .i64 (x.1 + x.2.1))) := rfl
      have e11 : wrapR .u64 (J.length : Int) = .i .u64 (J.length : Int) := by unfold wrapR; simp [IntKind.wrap, IntKind.signed, IntKind.bits]; omega
      obtain ⟨ix, hix, hrem⟩ := idx_of (S := IntKind.wrap .i64 (x.1 + x.2.1)) hJn (by omega)
      have e12 : wrapR .i64 (ix : Int) = .i .i64 (ix : Int) := wrapR_i64 (by omega)
      have hJi : J[ix]? = some J[ix] := List.getElem?_eq_getElem hix
      have hz := hJ _ (List.getElem_mem hix)
      generalize J[ix] = z at hJi hz
      have hhole : Hole3 z := Hole3.of hn2 (js_fits hf z hz)
      have hVJ : elL.View H (LT false J) J := by rw [LT_lt]; exact El.lt_view _ _ _
      obtain ⟨r, hr, hat2, _⟩ := ixL (pg := pg) (R := den pg) hVJ hJi
      have hldz := ldL (pg := pg) (R := den pg) hat2
      have hbs := fun H => k_bslL (pg := pg) (R := den pg) z H
      have hoz : elL.Own (H ++ [cl z] ++ [.cells [.i .i64 z.1, .i .i64 z.2.1, .i .i64 z.2.2] false]) t ns := ho.mono fun id h => by
        have := ho.lt id h
        rw [List.append_assoc, List.getElem?_append_left this]
      have hx : elL.View (H ++ [cl z] ++ [.cells [.i .i64 z.1, .i .i64 z.2.1, .i .i64 z.2.2] false]) (.sl (H ++ [cl z]).length 0 3 true 1 (some 1)) [z] :=
        .inr (.inr ⟨(H ++ [cl z]).length, 0, some 1, _, false, rfl, by simp, getLast _ _, by simp [elL], by simp [elL, El.flat]⟩)
      obtain ⟨t1, H1, a1, o1, l1, f1, g1⟩ := appL hoz hx (by simp; omega)
      have hfr : ∀ id, t.idOf ≠ some id → ∀ o, H[id]? = some o → H1[id]? = some o := by
        intro id hid o ho'
        have hlt := (List.getElem?_eq_some_iff.1 ho').1
        rw [f1 id (by simp; omega) hid, List.append_assoc, List.getElem?_append_left hlt, ho']
      have hG1 : elL.Own H1 G g := hG.mono fun id h => by
        have hlt := hG.lt id h
        rw [f1 id (by simp; omega) (hne id h), List.append_assoc, List.getElem?_append_left hlt]
      have hcz : H1[H.length]? = some (cl z) := by
        rw [f1 H.length (by simp) (fun he => by have := ho.lt _ he; omega), List.append_assoc, List.getElem?_append_right (Nat.le_refl _)]
        simp
      obtain ⟨rz, _⟩ := ld_cl (pg := pg) (R := den pg) hcz
      have c39 := fun H => Fn.call (fn39 hF hm hhole) (args := [.i .i64 (m : Int), lineTV z]) (ks := []) (fs := []) (cs := []) (H := H) (by simp [snapArgs, sn_i, snap_line _ _ 7])
      have hm' : ∃ m' : Nat, m' < 65536 ∧ (if can m z then (leap m z : Int) else (m : Int)) = (m' : Int) := by
        cases can m z with
        | true => exact ⟨leap m z, leap_lt hm (by unfold Hole3 at hhole; omega), rfl⟩
        | false => exact ⟨m, hm, rfl⟩
      obtain ⟨m', hm', he'⟩ := hm'
      rw [he'] at c39
      obtain ⟨e, H', t', ns', r1, rest⟩ := l10_1_all (P := P) (R := R) (G := G) hF hc hg k (i + 1) m' H1 t1 (ns ++ [z]) (by omega) hm' hG1 o1 (by simp; omega) (by
        intro id hid he
        rcases g1 with rfl | g1
        · exact hne id hid he
        · have h2 := hG.lt id hid
          have := g1 id he
          simp only [List.length_append, List.length_singleton] at this
          omega)
      refine ⟨e, H', t', ns', Eq.trans ?_ r1, rest⟩
      simp only [List.length_append, List.length_singleton, cl, lineTV, List.append_assoc, List.cons_append, List.nil_append] at a1 rz hldz c39 hbs
      rw [l10_1, den_loop]
      simp [l10_1, b10_0, go_nil, go_last, go_past, go_pastR, go_blkN, go_blkR, go_blkE, go_skip, go_exit, go_ret, go_scope, go_seq, go_reg, go_block, go_cond, cnd_b, go_opsN, go_ops, go_opsG, grd_b, grd_u, stp_some, fin_some, up_some, cont_some, k_call, k_mv, k_pick, k_bin, k_eqB, k_eqA, k_not, k_neg, k_conv, k_alloc, k_boxA, k_boxI, k_boxB, k_boxN, k_boxBs, k_ldR, k_ldA, k_ldI, k_ldB, k_stA, k_stI, k_stB, ldC_some, stC_some, k_mkfn, k_slc, k_slcA, k_ixA, k_ixBs, k_ixSl, k_fadr, k_fld, k_ext, k_len, k_app, k_mn, k_mx, k_nilck, k_build, k_bsl1, k_bsl2, b_add, b_sub, b_mul, b_eql, b_neq, b_lss, b_leq, b_gtr, b_geq, Dn.setLast, Dn.getLast, evalO, mapO, Dn.get, putE, keepE, TV.one, TV.isAgg, Dn.part, hlen, e1, e2, c38, hlJ, hJne, hJ0, hq, hq0, hr0, hq1, hr1, e9, e10, e11, hrem, e12, hr, hldz, put2, hbs, a1, rz, c39]


theorem l10_3_round {pg : Pg} (hF : Free pg) {n : Int} {l : List Line} (hc : chk n l = 0) {p : Nat} (hp : p < 65536) (hout : outOf n (p : Int) = false) {r : Int} (hr : 0 ≤ r ∧ r < 2) {H : Heap} {G : TV} {g : List Line} (hG : elL.Own H G g) (hg : g.length ≤ 20) :
    ∃ G' g' H', den pg l10_3 [(0, .i .i64 n), (7, LT false l), (8, .i .i64 (p : Int)), (9, G), (10, .i .i64 r)] H = den pg l10_3 [(0, .i .i64 n), (7, LT false l), (8, .i .i64 (p : Int)), (9, G'), (10, .i .i64 (r + 1))] H' ∧ elL.Own H' G' g' ∧ g'.length ≤ 20 := by
  have e0 : r < 2 := hr.2
  have e2 : wrapR .i64 (r + 1) = .i .i64 (r + 1) := wrapR_i64 (by omega)
  have hsn := hG.snap elL_flat
  rw [← LT_lt] at hsn
  have c40 := Fn.call (fn40 hF hc (g := g) (by omega) hp hout) (args := [.i .i64 n, LT false l, .i .i64 (p : Int), G]) (ks := []) (fs := []) (cs := []) (H := H) (by simp [snapArgs, sn_i, LW_snap0, hsn])
  have c21 := Fn.call (fn21 hF hc (g := g) (by omega) hp) (args := [LT false l, .i .i64 (p : Int), G]) (ks := []) (fs := []) (cs := []) (H := H) (by simp [snapArgs, sn_i, LW_snap0, hsn])
  obtain ⟨e, H', t', ns', h1, g0, g7, g8, g10, g16, o1, l1⟩ := l10_1_all (pg := pg) (P := .i .i64 (p : Int)) (R := .i .i64 r) (G := G) hF hc hg g.length 0 p H .nilsl [] (by omega) hp hG (.inl ⟨rfl, rfl⟩) (by simp) (by intro id _ h; cases h)
  simp only [Int.natCast_zero] at h1
  refine ⟨t', ns', H', ?_, o1, l1⟩
  cases hok : (playR l p g).2 with
  | true =>
    rw [hok] at c40 c21
    rw [l10_3, den_loop]
    simp [l10_3, b10_2, go_nil, go_last, go_past, go_pastR, go_blkN, go_blkR, go_blkE, go_skip, go_exit, go_ret, go_scope, go_seq, go_reg, go_block, go_cond, cnd_b, go_opsN, go_ops, go_opsG, grd_b, grd_u, stp_some, fin_some, up_some, cont_some, k_call, k_mv, k_pick, k_bin, k_eqB, k_eqA, k_not, k_neg, k_conv, k_alloc, k_boxA, k_boxI, k_boxB, k_boxN, k_boxBs, k_ldR, k_ldA, k_ldI, k_ldB, k_stA, k_stI, k_stB, ldC_some, stC_some, k_mkfn, k_slc, k_slcA, k_ixA, k_ixBs, k_ixSl, k_fadr, k_fld, k_ext, k_len, k_app, k_mn, k_mx, k_nilck, k_build, k_bsl1, k_bsl2, b_add, b_sub, b_mul, b_eql, b_neq, b_lss, b_leq, b_gtr, b_geq, Dn.setLast, Dn.getLast, evalO, mapO, Dn.get, putE, keepE, TV.one, TV.isAgg, Dn.part, e0, e2, c40, c21, go_denK (c := l10_1) rfl, h1, g0, g7, g8, g10, g16]
  | false =>
    rw [hok] at c40 c21
    rw [l10_3, den_loop]
    simp [l10_3, b10_2, go_nil, go_last, go_past, go_pastR, go_blkN, go_blkR, go_blkE, go_skip, go_exit, go_ret, go_scope, go_seq, go_reg, go_block, go_cond, cnd_b, go_opsN, go_ops, go_opsG, grd_b, grd_u, stp_some, fin_some, up_some, cont_some, k_call, k_mv, k_pick, k_bin, k_eqB, k_eqA, k_not, k_neg, k_conv, k_alloc, k_boxA, k_boxI, k_boxB, k_boxN, k_boxBs, k_ldR, k_ldA, k_ldI, k_ldB, k_stA, k_stI, k_stB, ldC_some, stC_some, k_mkfn, k_slc, k_slcA, k_ixA, k_ixBs, k_ixSl, k_fadr, k_fld, k_ext, k_len, k_app, k_mn, k_mx, k_nilck, k_build, k_bsl1, k_bsl2, b_add, b_sub, b_mul, b_eql, b_neq, b_lss, b_leq, b_gtr, b_geq, Dn.setLast, Dn.getLast, evalO, mapO, Dn.get, putE, keepE, TV.one, TV.isAgg, Dn.part, e0, e2, c40, c21, go_denK (c := l10_1) rfl, h1, g0, g7, g8, g10, g16]

theorem run10 {pg : Pg} (hF : Free pg) (h22 : Fn pg 22 [] (.b true)) (n : Int) (t : TV) (l : List Line) (P : Int) (W : TV) (ws : List Line) (ht : IsLines t l) (hW : ∀ H, elL.View H W ws) (hW1 : W.one = true) (hWa : W.isAgg = false) :
    ∃ H, bodyRun pg (den pg) 10 [.i .i64 n, t, .agg [.i .i64 P, W]] [] = some (.b true, H) := by
  obtain ⟨N, m, hN1, hN2, hm, hc, h18⟩ := call18 hF (n := n) (most := 16) (many := 20) (by omega) ht (by omega)
  simp only [Int.cast_ofNat_Int] at h18
  obtain ⟨k, rfl⟩ : ∃ k : Nat, N = (k : Int) := ⟨N.toNat, by omega⟩
  have hk : k ≤ 16 := by omega
  have e3 : ∀ v, wrapR .u64 v = .i .u64 (IntKind.wrap .u64 v) := fun _ => rfl
  have hrange := posOf_range hk P
  have h2 : ¬ (2 : Int) ^ k = 0 := by omega
  have hlenW := fun H H' => (hW H).lenK H'
  have hpos := posOf_i64 hk P
  have hsh := b_shlu hk
  have hpw : (2 : Int) ^ k ≤ 65536 := by
    have : ∀ k : Nat, k ≤ 16 → (2 : Int) ^ k ≤ 65536 := by decide
    exact this k hk
  obtain ⟨p, hp⟩ : ∃ p : Nat, posOf k P = (p : Int) := ⟨(posOf k P).toNat, by omega⟩
  rw [hp] at hrange hpos
  have hout : outOf (k : Int) (p : Int) = false := by
    simp only [outOf, Int.toNat_natCast]
    simp
    omega
  let H0 : Heap := [.cells [.i .i64 P, W] true]
  obtain ⟨kk, hkk⟩ : ∃ kk, kk = min ws.length 20 := ⟨_, rfl⟩
  obtain ⟨v, s1, w1, _⟩ := (hW H0).slc (lo := 0) (hi := kk) (bl := false) (bh := true) (vs := [.i .i64 (kk : Int)]) (Nat.zero_le _) (by omega) (by simp [bounds3, bound])
  obtain ⟨t1, H1, a1, o1, _⟩ := appL (H := H0) (t := .nilsl) (l := []) (.inl ⟨rfl, rfl⟩) w1 (by simp; omega)
  have s1' : slcRun false true false 3 true W [.i .i64 (kk : Int)] = some v := s1
  have a1' : appRun 3 true 24 .nilsl v [.cells [.i .i64 P, W] true] = some (t1, H1) := a1
  obtain ⟨t2, w2, H2, r1, o2, l2⟩ := l10_3_round hF hc (p := p) (by omega) hout (r := 0) (by omega) o1 (by simp; omega)
  obtain ⟨t3, w3, H3, r2, o3, l3⟩ := l10_3_round hF hc (p := p) (by omega) hout (r := 1) (by omega) o2 l2
  have r3 : den pg l10_3 [(0, .i .i64 (k : Int)), (7, LT false m), (8, .i .i64 (p : Int)), (9, t3), (10, .i .i64 2)] H3 = some ⟨.exit 0, [(0, .i .i64 (k : Int)), (7, LT false m), (8, .i .i64 (p : Int)), (9, t3), (10, .i .i64 2), (43, .b false)], H3⟩ := by
    rw [l10_3, den_loop]
    simp [b10_2, go_nil, go_last, go_past, go_pastR, go_blkN, go_blkR, go_blkE, go_skip, go_exit, go_ret, go_scope, go_seq, go_reg, go_block, go_cond, cnd_b, go_opsN, go_ops, go_opsG, grd_b, grd_u, stp_some, fin_some, up_some, cont_some, k_call, k_mv, k_pick, k_bin, k_eqB, k_eqA, k_not, k_neg, k_conv, k_alloc, k_boxA, k_boxI, k_boxB, k_boxN, k_boxBs, k_ldR, k_ldA, k_ldI, k_ldB, k_stA, k_stI, k_stB, ldC_some, stC_some, k_mkfn, k_slc, k_slcA, k_ixA, k_ixBs, k_ixSl, k_fadr, k_fld, k_ext, k_len, k_app, k_mn, k_mx, k_nilck, k_build, k_bsl1, k_bsl2, b_add, b_sub, b_mul, b_eql, b_neq, b_lss, b_leq, b_gtr, b_geq, Dn.setLast, Dn.getLast, evalO, mapO, Dn.get, putE, keepE, TV.one, TV.isAgg, Dn.part]
  have hr := r1.trans (r2.trans r3)
  have hmin2 : (if (20 : Int) < (ws.length : Int) then (20 : Int) else (ws.length : Int)) = (kk : Int) := by split <;> omega
  have c22 := fun H => Fn.call h22 (args := []) (ks := []) (fs := []) (cs := []) (H := H) (by simp [snapArgs])
  refine ⟨H3, bodyRun_of (o := ⟨.ret, [(6, .b true)], H3⟩) (vs := [.b true]) (d := d10) (by rw [hF.F]; rfl) rfl ?_ (by simp) rfl⟩
  rw [runC_go]
  have hbox : ∀ H, dkc pg (den pg) (.box true) [.agg [.i .i64 P, W]] H = some (.ref H.length 0, H ++ [.cells [.i .i64 P, W] true]) := fun H => k_boxA _ _ (by rw [List.all_cons, List.all_cons, hW1]; rfl)
  have hag := hWa
  unfold TV.isAgg at hag
  simp [d10, c10, zipE, go_nil, go_last, go_past, go_pastR, go_blkN, go_blkR, go_blkE, go_skip, go_exit, go_ret, go_scope, go_seq, go_reg, go_block, go_cond, cnd_b, go_opsN, go_ops, go_opsG, grd_b, grd_u, stp_some, fin_some, up_some, cont_some, k_call, k_mv, k_pick, k_bin, k_eqB, k_eqA, k_not, k_neg, k_conv, k_alloc, k_boxA, k_boxI, k_boxB, k_boxN, k_boxBs, k_ldR, k_ldA, k_ldI, k_ldB, k_stA, k_stI, k_stB, ldC_some, stC_some, k_mkfn, k_slc, k_slcA, k_ixA, k_ixBs, k_ixSl, k_fadr, k_fld, k_ext, k_len, k_app, k_mn, k_mx, k_nilck, k_build, k_bsl1, k_bsl2, b_add, b_sub, b_mul, b_eql, b_neq, b_lss, b_leq, b_gtr, b_geq, Dn.setLast, Dn.getLast, evalO, mapO, Dn.get, putE, keepE, TV.one, TV.isAgg, Dn.part, hbox, h18, e3, hsh, b_rem, h2, hpos, hlenW [], hag, hmin2, s1', a1', go_denK (c := l10_3) rfl, hr, c22]

end Go.Proofs.Try.Dn

