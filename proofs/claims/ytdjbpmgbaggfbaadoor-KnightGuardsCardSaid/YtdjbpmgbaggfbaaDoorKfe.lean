/-
  Knight: quiet sets and tight sets: the looks of the program and of the reference.
-/
import Derived.Test.YtdjbpmgbaggfbaaDoorKfd
import Derived.Test.YtdjbpmgbaggfbaaDoorKfa
set_option linter.unusedSimpArgs false
set_option linter.unusedVariables false

namespace Go.Proofs.Tryd.Dn
open Go.Dn

/-! the number of squares of a set -/
theorem pop_one (y : Nat) : pop 1 y = y % 2 := by simp [pop]
theorem pop_step (i x : Nat) : pop (i + 1) x = pop i x + x / 2 ^ i % 2 := by rw [pop_add i 1 x, pop_one]
theorem pop_zero : ∀ n, pop n 0 = 0
  | 0 => rfl
  | n + 1 => by simp [pop, pop_zero n]

theorem l48_all {pg : Pg} {x : Nat} (hx : x < 18446744073709551616) {H : Heap} : ∀ (d i : Nat), i + d = 64 → ∃ e, den pg l48_1 [(0, .i .i64 (x : Int)), (3, .i .i64 (pop i x : Int)), (4, .i .i64 (i : Int))] H = some ⟨.exit 0, e, H⟩ ∧ Dn.get e 3 = some (.i .i64 (pop 64 x : Int)) := by
  intro d
  induction d with
  | zero =>
    intro i hd
    obtain rfl : i = 64 := by omega
    have sh := Dn.shr_i (k := .i64) (m := x) (c := 64) (by omega)
    have hz : x / 2 ^ 64 = 0 := Nat.div_eq_of_lt (by omega)
    rw [hz] at sh
    simp only [Int.natCast_zero, Int.cast_ofNat_Int] at sh ⊢
    have key : ∀ P : Int, ∃ e, den pg l48_1 [(0, .i .i64 (x : Int)), (3, .i .i64 P), (4, .i .i64 64)] H = some ⟨.exit 0, e, H⟩ ∧ Dn.get e 3 = some (.i .i64 P) := fun P => ⟨_, by
      rw [l48_1, den_loop]
      simp (disch := omega) [b48_0, go_nil, go_last, go_past, go_pastR, go_blkN, go_blkR, go_blkE, go_skip, go_exit, go_ret, go_scope, go_seq, go_reg, go_regd, go_opdN, go_opd, go_opdG, grdd_b, grdd_u, stpd_some, find_some, go_block, go_cond, cnd_b, go_opsN, go_ops, go_opsG, grd_b, grd_u, stp_some, fin_some, up_some, cont_some, k_call, k_mv, k_pick, k_bin, k_eqB, k_eqA, k_not, k_neg, k_conv, k_alloc, k_boxA, k_boxI, k_boxB, k_boxN, k_boxBs, k_ldR, k_ldA, k_ldI, k_ldB, k_stA, k_stI, k_stB, ldC_some, stC_some, k_mkfn, k_slc, k_slcA, k_ixA, k_ixBs, k_ixSl, k_fadr, k_fld, k_ext, k_len, k_app, k_mn, k_mx, k_nilck, k_build, k_bsl1, k_bsl2, b_add, b_sub, b_mul, b_eql, b_neq, b_lss, b_leq, b_gtr, b_geq, Dn.setLast, Dn.getLast, evalO, mapO, Dn.get, putE, keepE_nil, keepE_cons, kp_some, kp_none, TV.one, TV.isAgg, Dn.part, k_boxR, negb, at0, at1, at2, at3, at4, dT, dF, wrapR_i64, Option.bind_some, Option.map_some, sh]
      rfl, rfl⟩
    exact key _
  | succ d ih =>
    intro i hd
    have sh := Dn.shr_i (k := .i64) (m := x) (c := i) (by omega)
    by_cases hz : x / 2 ^ i = 0
    · rw [hz] at sh
      have hp : pop 64 x = pop i x := by
        have := pop_add i (64 - i) x
        rw [show i + (64 - i) = 64 by omega, hz, pop_zero] at this
        omega
      rw [hp]
      simp only [Int.natCast_zero] at sh
      have key : ∀ P : Int, ∃ e, den pg l48_1 [(0, .i .i64 (x : Int)), (3, .i .i64 P), (4, .i .i64 (i : Int))] H = some ⟨.exit 0, e, H⟩ ∧ Dn.get e 3 = some (.i .i64 P) := fun P => ⟨_, by
        rw [l48_1, den_loop]
        simp (disch := omega) [b48_0, go_nil, go_last, go_past, go_pastR, go_blkN, go_blkR, go_blkE, go_skip, go_exit, go_ret, go_scope, go_seq, go_reg, go_regd, go_opdN, go_opd, go_opdG, grdd_b, grdd_u, stpd_some, find_some, go_block, go_cond, cnd_b, go_opsN, go_ops, go_opsG, grd_b, grd_u, stp_some, fin_some, up_some, cont_some, k_call, k_mv, k_pick, k_bin, k_eqB, k_eqA, k_not, k_neg, k_conv, k_alloc, k_boxA, k_boxI, k_boxB, k_boxN, k_boxBs, k_ldR, k_ldA, k_ldI, k_ldB, k_stA, k_stI, k_stB, ldC_some, stC_some, k_mkfn, k_slc, k_slcA, k_ixA, k_ixBs, k_ixSl, k_fadr, k_fld, k_ext, k_len, k_app, k_mn, k_mx, k_nilck, k_build, k_bsl1, k_bsl2, b_add, b_sub, b_mul, b_eql, b_neq, b_lss, b_leq, b_gtr, b_geq, Dn.setLast, Dn.getLast, evalO, mapO, Dn.get, putE, keepE_nil, keepE_cons, kp_some, kp_none, TV.one, TV.isAgg, Dn.part, k_boxR, negb, at0, at1, at2, at3, at4, dT, dF, wrapR_i64, Option.bind_some, Option.map_some, sh]
        rfl, rfl⟩
      exact key _
    · obtain ⟨e, e1, e2⟩ := ih (i + 1) (by omega)
      have rm := tmod_nat (x / 2 ^ i) 2
      simp only [Int.cast_ofNat_Int] at rm
      have hps := pop_step i x
      have hpl := pop_le i x
      have hm : x / 2 ^ i % 2 < 2 := Nat.mod_lt _ (by decide)
      generalize x / 2 ^ i % 2 = Y at *
      generalize x / 2 ^ i = D at *
      refine ⟨e, Eq.trans ?_ e1, e2⟩
      rw [hps]
      generalize pop i x = P at *
      have w1 : wrapR .i64 ((P : Int) + (Y : Int)) = .i .i64 ((P + Y : Nat) : Int) := by rw [show (P : Int) + Y = ((P + Y : Nat) : Int) by omega]; exact wrapR_i64 (by omega)
      rw [l48_1, den_loop]
      simp (disch := omega) [l48_1, b48_0, go_nil, go_last, go_past, go_pastR, go_blkN, go_blkR, go_blkE, go_skip, go_exit, go_ret, go_scope, go_seq, go_reg, go_regd, go_opdN, go_opd, go_opdG, grdd_b, grdd_u, stpd_some, find_some, go_block, go_cond, cnd_b, go_opsN, go_ops, go_opsG, grd_b, grd_u, stp_some, fin_some, up_some, cont_some, k_call, k_mv, k_pick, k_bin, k_eqB, k_eqA, k_not, k_neg, k_conv, k_alloc, k_boxA, k_boxI, k_boxB, k_boxN, k_boxBs, k_ldR, k_ldA, k_ldI, k_ldB, k_stA, k_stI, k_stB, ldC_some, stC_some, k_mkfn, k_slc, k_slcA, k_ixA, k_ixBs, k_ixSl, k_fadr, k_fld, k_ext, k_len, k_app, k_mn, k_mx, k_nilck, k_build, k_bsl1, k_bsl2, b_add, b_sub, b_mul, b_eql, b_neq, b_lss, b_leq, b_gtr, b_geq, Dn.setLast, Dn.getLast, evalO, mapO, Dn.get, putE, keepE_nil, keepE_cons, kp_some, kp_none, TV.one, TV.isAgg, Dn.part, k_boxR, negb, at0, at1, at2, at3, at4, dT, dF, wrapR_i64, Option.bind_some, Option.map_some, sh, b_rem, rm, w1]

theorem fn48 {pg : Pg} (hF : Free pg) {x : Nat} (hx : x < 9223372036854775808) : PFn pg 48 [.i .i64 (x : Int)] (.i .i64 (pop 64 x : Int)) := by
  obtain ⟨e, e1, e2⟩ := l48_all (pg := pg) (x := x) (by omega) (H := []) 64 0 (by omega)
  have h0 : ((pop 0 x : Nat) : Int) = 0 := rfl
  rw [h0] at e1
  simp only [Int.natCast_zero] at e1
  refine .inr ⟨hF.S _ _ (by decide), .i .i64 (pop 64 x : Int), [], body_of (x := .ret) (e := [(2, .i .i64 (pop 64 x : Int))]) (d := d48) (by rw [hF.F]; rfl) rfl ?_ (.inl rfl) rfl, sn_i _ _ _ _⟩
  generalize (pop 64 x : Int) = P at *
  simp (disch := omega) [d48, c48, zipE, go_nil, go_last, go_past, go_pastR, go_blkN, go_blkR, go_blkE, go_skip, go_exit, go_ret, go_scope, go_seq, go_reg, go_regd, go_opdN, go_opd, go_opdG, grdd_b, grdd_u, stpd_some, find_some, go_block, go_cond, cnd_b, go_opsN, go_ops, go_opsG, grd_b, grd_u, stp_some, fin_some, up_some, cont_some, k_call, k_mv, k_pick, k_bin, k_eqB, k_eqA, k_not, k_neg, k_conv, k_alloc, k_boxA, k_boxI, k_boxB, k_boxN, k_boxBs, k_ldR, k_ldA, k_ldI, k_ldB, k_stA, k_stI, k_stB, ldC_some, stC_some, k_mkfn, k_slc, k_slcA, k_ixA, k_ixBs, k_ixSl, k_fadr, k_fld, k_ext, k_len, k_app, k_mn, k_mx, k_nilck, k_build, k_bsl1, k_bsl2, b_add, b_sub, b_mul, b_eql, b_neq, b_lss, b_leq, b_gtr, b_geq, Dn.setLast, Dn.getLast, evalO, mapO, Dn.get, putE, keepE_nil, keepE_cons, kp_some, kp_none, TV.one, TV.isAgg, Dn.part, k_boxR, negb, at0, at1, at2, at3, at4, dT, dF, wrapR_i64, Option.bind_some, Option.map_some, go_denK (c := l48_1) rfl, e1, e2]

theorem call48 {pg : Pg} (hF : Free pg) {x : Nat} (hx : x < 9223372036854775808) (H : Heap) : callRun pg (den pg) (.pu []) [.fn 48 [] [], .i .i64 (x : Int)] H = some (.i .i64 (pop 64 x : Int), H) := PFn.at (fn48 hF hx) (fun H => sa_I sa_0) H

/-! the squares of a colour, in the reference -/
/-! the squares around a set, in the reference -/
def rowTo (c i : Nat) : Nat → Nat
  | 0 => 0
  | k + 1 => if near c i k = true then rowTo c i k ||| 2 ^ k else rowTo c i k

theorem rowTo_lt (c i : Nat) : ∀ k, rowTo c i k < 2 ^ k
  | 0 => by simp [rowTo]
  | k + 1 => by
    have ih := rowTo_lt c i k
    have h2 : 2 ^ k < 2 ^ (k + 1) := Nat.pow_lt_pow_right (by decide) (by omega)
    rw [rowTo]
    split
    · exact or_lt (Nat.lt_trans ih h2) h2
    · exact Nat.lt_trans ih h2

theorem rowTo_bit (c i t : Nat) : ∀ k, (rowTo c i k).testBit t = (decide (t < k) && near c i t)
  | 0 => by simp [rowTo]
  | k + 1 => by
    have ih := rowTo_bit c i t k
    rw [rowTo]
    by_cases hk : t = k
    · subst hk
      have : decide (t < t) = false := dF (by omega)
      rw [this, Bool.false_and] at ih
      rw [dT (by omega : t < t + 1), Bool.true_and]
      split
      · rename_i h; rw [Nat.testBit_or, ih, Nat.testBit_two_pow, dT rfl, h]; rfl
      · rename_i h; rw [ih]; simpa using h
    · have e : decide (t < k + 1) = decide (t < k) := decide_eq_decide.2 (by omega)
      rw [e, ← ih]
      split
      · rw [Nat.testBit_or, Nat.testBit_two_pow, dF (by omega), Bool.or_false]
      · rfl

theorem rowTo_mv {r c i : Nat} (h : Brd r c) (hi : i < r * c) : rowTo c i (r * c) = mv r c i := by
  apply Nat.eq_of_testBit_eq
  intro t
  rw [rowTo_bit]
  by_cases ht : t < r * c
  · rw [dT ht, Bool.true_and, mv_near h hi ht]
  · rw [dF ht, Bool.false_and]
    exact (Nat.testBit_lt_two_pow (Nat.lt_of_lt_of_le (mv_bound h hi) (Nat.pow_le_pow_right (by decide) (by omega)))).symm

def besTo (r c x : Nat) : Nat → Nat
  | 0 => 0
  | i + 1 => if x.testBit i = true then besTo r c x i ||| mv r c i else besTo r c x i

theorem besTo_lt {r c x : Nat} (h : Brd r c) : ∀ i, i ≤ r * c → besTo r c x i < 2 ^ (r * c)
  | 0, _ => Nat.two_pow_pos _
  | i + 1, hi => by
    rw [besTo]
    split
    · exact or_lt (besTo_lt h i (by omega)) (mv_bound h (by omega))
    · exact besTo_lt h i (by omega)

theorem besTo_bit {r c x t : Nat} : ∀ i, (besTo r c x i).testBit t = true ↔ ∃ s, s < i ∧ x.testBit s = true ∧ (mv r c s).testBit t = true
  | 0 => by simp [besTo]
  | i + 1 => by
    rw [besTo]
    split
    · rename_i hb
      rw [Nat.testBit_or, Bool.or_eq_true, besTo_bit i]
      constructor
      · rintro (⟨s, h1, h2, h3⟩ | h3)
        · exact ⟨s, by omega, h2, h3⟩
        · exact ⟨i, by omega, hb, h3⟩
      · rintro ⟨s, h1, h2, h3⟩
        by_cases hs : s = i
        · subst hs; exact .inr h3
        · exact .inl ⟨s, by omega, h2, h3⟩
    · rename_i hb
      rw [besTo_bit i]
      constructor
      · rintro ⟨s, h1, h2, h3⟩; exact ⟨s, by omega, h2, h3⟩
      · rintro ⟨s, h1, h2, h3⟩
        by_cases hs : s = i
        · subst hs; exact absurd h2 hb
        · exact ⟨s, by omega, h2, h3⟩

theorem besTo_around {r c x : Nat} (h : Brd r c) (hx : x < 2 ^ (r * c)) : besTo r c x (r * c) = around r c x := by
  apply Nat.eq_of_testBit_eq
  intro t
  by_cases ht : t < r * c
  · have h1 := around_bit h hx ht
    have h2 := besTo_bit (r := r) (c := c) (x := x) (t := t) (r * c)
    have : (besTo r c x (r * c)).testBit t = true ↔ (around r c x).testBit t = true := by
      rw [h1, h2]
      constructor
      · rintro ⟨s, a1, a2, a3⟩; exact ⟨s, a2, a1, by rw [← mv_near h a1 ht]; exact a3⟩
      · rintro ⟨s, a2, a1, a3⟩; exact ⟨s, a1, a2, by rw [mv_near h a1 ht]; exact a3⟩
    cases hb : (besTo r c x (r * c)).testBit t <;> cases ha : (around r c x).testBit t <;> simp_all
  · rw [Nat.testBit_lt_two_pow (Nat.lt_of_lt_of_le (besTo_lt h _ (Nat.le_refl _)) (Nat.pow_le_pow_right (by decide) (by omega))), Nat.testBit_lt_two_pow (Nat.lt_of_lt_of_le (around_lt h hx) (Nat.pow_le_pow_right (by decide) (by omega)))]

theorem l67_1_all {pg : Pg} (hF : Free pg) {r c x i m : Nat} (h : Brd r c) (hi : i < r * c) (hm : m < 2 ^ (r * c)) {sd : Nat} (sh0 : binI .shr (.i .i64 (x : Int)) (.i .i64 (i : Int)) = some (.i .i64 (sd : Int))) (hsd : sd % 2 = 1) {H : Heap} : ∀ (d k : Nat), k + d = r * c →
    ∃ e, den pg l67_1 [(0, .i .i64 (r : Int)), (1, .i .i64 (c : Int)), (2, .i .i64 (x : Int)), (7, .i .i64 ((m ||| rowTo c i k : Nat) : Int)), (8, .i .i64 (i : Int)), (9, .i .i64 (k : Int))] H = some ⟨.exit 2, e, H⟩ ∧
      keepE [0, 1, 2, 7, 8] e = [(0, .i .i64 (r : Int)), (1, .i .i64 (c : Int)), (2, .i .i64 (x : Int)), (7, .i .i64 ((m ||| mv r c i : Nat) : Int)), (8, .i .i64 (i : Int))]
  | 0, k, hd => by
    obtain ⟨hcast, wn⟩ := rc_facts h
    obtain rfl : k = r * c := by omega
    rw [rowTo_mv h hi]
    have key : ∀ V : Int, ∃ e, den pg l67_1 [(0, .i .i64 (r : Int)), (1, .i .i64 (c : Int)), (2, .i .i64 (x : Int)), (7, .i .i64 V), (8, .i .i64 (i : Int)), (9, .i .i64 ((r * c : Nat) : Int))] H = some ⟨.exit 2, e, H⟩ ∧
      keepE [0, 1, 2, 7, 8] e = [(0, .i .i64 (r : Int)), (1, .i .i64 (c : Int)), (2, .i .i64 (x : Int)), (7, .i .i64 V), (8, .i .i64 (i : Int))] := fun V => ⟨_, by
      rw [hcast, l67_1, den_loop]
      simp (disch := omega) [b67_0, go_nil, go_last, go_past, go_pastR, go_blkN, go_blkR, go_blkE, go_skip, go_exit, go_ret, go_scope, go_seq, go_reg, go_regd, go_opdN, go_opd, go_opdG, grdd_b, grdd_u, stpd_some, find_some, go_block, go_cond, cnd_b, go_opsN, go_ops, go_opsG, grd_b, grd_u, stp_some, fin_some, up_some, cont_some, k_call, k_mv, k_pick, k_bin, k_eqB, k_eqA, k_not, k_neg, k_conv, k_alloc, k_boxA, k_boxI, k_boxB, k_boxN, k_boxBs, k_ldR, k_ldA, k_ldI, k_ldB, k_stA, k_stI, k_stB, ldC_some, stC_some, k_mkfn, k_slc, k_slcA, k_ixA, k_ixBs, k_ixSl, k_fadr, k_fld, k_ext, k_len, k_app, k_mn, k_mx, k_nilck, k_build, k_bsl1, k_bsl2, b_add, b_sub, b_mul, b_eql, b_neq, b_lss, b_leq, b_gtr, b_geq, Dn.setLast, Dn.getLast, evalO, mapO, Dn.get, putE, keepE_nil, keepE_cons, kp_some, kp_none, TV.one, TV.isAgg, Dn.part, k_boxR, negb, at0, at1, at2, at3, at4, dT, dF, wrapR_i64, Option.bind_some, Option.map_some, wn]
      rfl, rfl⟩
    exact key _
  | d + 1, k, hd => by
    have hn := h.n36
    obtain ⟨hcast, wn⟩ := rc_facts h
    have hk : k < r * c := by omega
    obtain ⟨e, e1, e2⟩ := l67_1_all (pg := pg) hF h hi hm sh0 hsd (H := H) d (k + 1) (by omega)
    have c62 := call62 (pg := pg) hF h.c1 h.c8 (a := i) (b := k) (by omega) (by omega) H
    have rm := tmod_nat sd 2
    simp only [Int.cast_ofNat_Int] at rm
    rw [hsd] at rm
    have h2k : 2 ^ k < 2 ^ 37 := Nat.pow_lt_pow_right (by decide) (by omega)
    have h2n : 2 ^ (r * c) ≤ 2 ^ 37 := Nat.pow_le_pow_right (by decide) (by omega)
    have hrl := rowTo_lt c i k
    have hrk : 2 ^ k ≤ 2 ^ (r * c) := Nat.pow_le_pow_right (by decide) (by omega)
    have hml : m ||| rowTo c i k < 2 ^ (r * c) := or_lt hm (by omega)
    have o1 := or_ii (m := m ||| rowTo c i k) (k := 2 ^ k) (by omega) (by omega)
    have sh := Dn.shl_i (k := .i64) (c := k) (by omega)
    have hto : rowTo c i (k + 1) = if near c i k = true then rowTo c i k ||| 2 ^ k else rowTo c i k := rfl
    refine ⟨e, Eq.trans ?_ e1, e2⟩
    rw [hto]
    cases hnr : near c i k with
    | true =>
      rw [hnr] at c62
      rw [if_pos rfl, ← Nat.or_assoc]
      generalize (m ||| rowTo c i k) ||| 2 ^ k = V at *
      generalize m ||| rowTo c i k = W at *
      generalize 2 ^ k = U at *
      rw [l67_1, den_loop]
      simp (disch := omega) [l67_1, b67_0, go_nil, go_last, go_past, go_pastR, go_blkN, go_blkR, go_blkE, go_skip, go_exit, go_ret, go_scope, go_seq, go_reg, go_regd, go_opdN, go_opd, go_opdG, grdd_b, grdd_u, stpd_some, find_some, go_block, go_cond, cnd_b, go_opsN, go_ops, go_opsG, grd_b, grd_u, stp_some, fin_some, up_some, cont_some, k_call, k_mv, k_pick, k_bin, k_eqB, k_eqA, k_not, k_neg, k_conv, k_alloc, k_boxA, k_boxI, k_boxB, k_boxN, k_boxBs, k_ldR, k_ldA, k_ldI, k_ldB, k_stA, k_stI, k_stB, ldC_some, stC_some, k_mkfn, k_slc, k_slcA, k_ixA, k_ixBs, k_ixSl, k_fadr, k_fld, k_ext, k_len, k_app, k_mn, k_mx, k_nilck, k_build, k_bsl1, k_bsl2, b_add, b_sub, b_mul, b_eql, b_neq, b_lss, b_leq, b_gtr, b_geq, Dn.setLast, Dn.getLast, evalO, mapO, Dn.get, putE, keepE_nil, keepE_cons, kp_some, kp_none, TV.one, TV.isAgg, Dn.part, k_boxR, negb, at0, at1, at2, at3, at4, dT, dF, wrapR_i64, Option.bind_some, Option.map_some, wn, sh0, b_rem, rm, c62, sh, o1]
    | false =>
      rw [hnr] at c62
      rw [if_neg (by simp)]
      generalize m ||| rowTo c i k = W at *
      rw [l67_1, den_loop]
      simp (disch := omega) [l67_1, b67_0, go_nil, go_last, go_past, go_pastR, go_blkN, go_blkR, go_blkE, go_skip, go_exit, go_ret, go_scope, go_seq, go_reg, go_regd, go_opdN, go_opd, go_opdG, grdd_b, grdd_u, stpd_some, find_some, go_block, go_cond, cnd_b, go_opsN, go_ops, go_opsG, grd_b, grd_u, stp_some, fin_some, up_some, cont_some, k_call, k_mv, k_pick, k_bin, k_eqB, k_eqA, k_not, k_neg, k_conv, k_alloc, k_boxA, k_boxI, k_boxB, k_boxN, k_boxBs, k_ldR, k_ldA, k_ldI, k_ldB, k_stA, k_stI, k_stB, ldC_some, stC_some, k_mkfn, k_slc, k_slcA, k_ixA, k_ixBs, k_ixSl, k_fadr, k_fld, k_ext, k_len, k_app, k_mn, k_mx, k_nilck, k_build, k_bsl1, k_bsl2, b_add, b_sub, b_mul, b_eql, b_neq, b_lss, b_leq, b_gtr, b_geq, Dn.setLast, Dn.getLast, evalO, mapO, Dn.get, putE, keepE_nil, keepE_cons, kp_some, kp_none, TV.one, TV.isAgg, Dn.part, k_boxR, negb, at0, at1, at2, at3, at4, dT, dF, wrapR_i64, Option.bind_some, Option.map_some, wn, sh0, b_rem, rm, c62]

theorem l67_3_all {pg : Pg} (hF : Free pg) {r c x : Nat} (h : Brd r c) (hx : x < 2 ^ (r * c)) {H : Heap} : ∀ (d i : Nat), i + d = r * c →
    ∃ e, den pg l67_3 [(0, .i .i64 (r : Int)), (1, .i .i64 (c : Int)), (2, .i .i64 (x : Int)), (7, .i .i64 (besTo r c x i : Int)), (8, .i .i64 (i : Int))] H = some ⟨.exit 0, e, H⟩ ∧ Dn.get e 7 = some (.i .i64 (around r c x : Int))
  | 0, i, hd => by
    obtain ⟨hcast, wn⟩ := rc_facts h
    obtain rfl : i = r * c := by omega
    rw [besTo_around h hx]
    have key : ∀ V : Int, ∃ e, den pg l67_3 [(0, .i .i64 (r : Int)), (1, .i .i64 (c : Int)), (2, .i .i64 (x : Int)), (7, .i .i64 V), (8, .i .i64 ((r * c : Nat) : Int))] H = some ⟨.exit 0, e, H⟩ ∧ Dn.get e 7 = some (.i .i64 V) := fun V => ⟨_, by
      rw [hcast, l67_3, den_loop]
      simp (disch := omega) [b67_2, go_nil, go_last, go_past, go_pastR, go_blkN, go_blkR, go_blkE, go_skip, go_exit, go_ret, go_scope, go_seq, go_reg, go_regd, go_opdN, go_opd, go_opdG, grdd_b, grdd_u, stpd_some, find_some, go_block, go_cond, cnd_b, go_opsN, go_ops, go_opsG, grd_b, grd_u, stp_some, fin_some, up_some, cont_some, k_call, k_mv, k_pick, k_bin, k_eqB, k_eqA, k_not, k_neg, k_conv, k_alloc, k_boxA, k_boxI, k_boxB, k_boxN, k_boxBs, k_ldR, k_ldA, k_ldI, k_ldB, k_stA, k_stI, k_stB, ldC_some, stC_some, k_mkfn, k_slc, k_slcA, k_ixA, k_ixBs, k_ixSl, k_fadr, k_fld, k_ext, k_len, k_app, k_mn, k_mx, k_nilck, k_build, k_bsl1, k_bsl2, b_add, b_sub, b_mul, b_eql, b_neq, b_lss, b_leq, b_gtr, b_geq, Dn.setLast, Dn.getLast, evalO, mapO, Dn.get, putE, keepE_nil, keepE_cons, kp_some, kp_none, TV.one, TV.isAgg, Dn.part, k_boxR, negb, at0, at1, at2, at3, at4, dT, dF, wrapR_i64, Option.bind_some, Option.map_some, wn]
      rfl, rfl⟩
    exact key _
  | d + 1, i, hd => by
    have hn := h.n36
    obtain ⟨hcast, wn⟩ := rc_facts h
    have hi : i < r * c := by omega
    obtain ⟨e, e1, e2⟩ := l67_3_all (pg := pg) hF h hx (H := H) d (i + 1) (by omega)
    have sh0 := Dn.shr_i (k := .i64) (m := x) (c := i) (by omega)
    have hto : besTo r c x (i + 1) = if x.testBit i = true then besTo r c x i ||| mv r c i else besTo r c x i := rfl
    have hbl := besTo_lt (x := x) h i (by omega)
    have hbit : x.testBit i = decide (x / 2 ^ i % 2 = 1) := by
      rw [Nat.testBit_eq_decide_div_mod_eq]
    refine ⟨e, Eq.trans ?_ e1, e2⟩
    rw [hto]
    by_cases hb : x / 2 ^ i % 2 = 1
    · rw [hbit, dT hb, if_pos rfl]
      obtain ⟨e', f1, f2⟩ := l67_1_all (pg := pg) hF h hi hbl sh0 hb (H := H) (r * c) 0 (by omega)
      have h0 : besTo r c x i ||| rowTo c i 0 = besTo r c x i := by simp [rowTo]
      rw [h0] at f1
      simp only [Int.natCast_zero] at f1
      have g0 := keep_get f2 (s := 0) (by simp) rfl
      have g1 := keep_get f2 (s := 1) (by simp) rfl
      have g2 := keep_get f2 (s := 2) (by simp) rfl
      have g7 := keep_get f2 (s := 7) (by simp) rfl
      have g8 := keep_get f2 (s := 8) (by simp) rfl
      generalize besTo r c x i ||| mv r c i = V at *
      rw [l67_3, den_loop]
      simp (disch := omega) [l67_3, b67_2, go_nil, go_last, go_past, go_pastR, go_blkN, go_blkR, go_blkE, go_skip, go_exit, go_ret, go_scope, go_seq, go_reg, go_regd, go_opdN, go_opd, go_opdG, grdd_b, grdd_u, stpd_some, find_some, go_block, go_cond, cnd_b, go_opsN, go_ops, go_opsG, grd_b, grd_u, stp_some, fin_some, up_some, cont_some, k_call, k_mv, k_pick, k_bin, k_eqB, k_eqA, k_not, k_neg, k_conv, k_alloc, k_boxA, k_boxI, k_boxB, k_boxN, k_boxBs, k_ldR, k_ldA, k_ldI, k_ldB, k_stA, k_stI, k_stB, ldC_some, stC_some, k_mkfn, k_slc, k_slcA, k_ixA, k_ixBs, k_ixSl, k_fadr, k_fld, k_ext, k_len, k_app, k_mn, k_mx, k_nilck, k_build, k_bsl1, k_bsl2, b_add, b_sub, b_mul, b_eql, b_neq, b_lss, b_leq, b_gtr, b_geq, Dn.setLast, Dn.getLast, evalO, mapO, Dn.get, putE, keepE_nil, keepE_cons, kp_some, kp_none, TV.one, TV.isAgg, Dn.part, k_boxR, negb, at0, at1, at2, at3, at4, dT, dF, wrapR_i64, Option.bind_some, Option.map_some, wn, go_denK (c := l67_1) rfl, f1, g0, g1, g2, g7, g8]
    · rw [hbit, dF hb, if_neg (by simp)]
      have rm := tmod_nat (x / 2 ^ i) 2
      simp only [Int.cast_ofNat_Int] at rm
      have h0 : x / 2 ^ i % 2 = 0 := by omega
      rw [h0] at rm
      have hpos : (0 : Int) < (r : Int) * c := by rw [← hcast]; omega
      generalize x / 2 ^ i = D at *
      have hin : ∀ V : Int, ∃ e', den pg l67_1 [(0, .i .i64 (r : Int)), (1, .i .i64 (c : Int)), (2, .i .i64 (x : Int)), (7, .i .i64 V), (8, .i .i64 (i : Int)), (9, .i .i64 0)] H = some ⟨.exit 2, e', H⟩ ∧ keepE [0, 1, 2, 7, 8] e' = [(0, .i .i64 (r : Int)), (1, .i .i64 (c : Int)), (2, .i .i64 (x : Int)), (7, .i .i64 V), (8, .i .i64 (i : Int))] := fun V => ⟨_, by
        rw [l67_1, den_loop]
        simp (disch := omega) [b67_0, go_nil, go_last, go_past, go_pastR, go_blkN, go_blkR, go_blkE, go_skip, go_exit, go_ret, go_scope, go_seq, go_reg, go_regd, go_opdN, go_opd, go_opdG, grdd_b, grdd_u, stpd_some, find_some, go_block, go_cond, cnd_b, go_opsN, go_ops, go_opsG, grd_b, grd_u, stp_some, fin_some, up_some, cont_some, k_call, k_mv, k_pick, k_bin, k_eqB, k_eqA, k_not, k_neg, k_conv, k_alloc, k_boxA, k_boxI, k_boxB, k_boxN, k_boxBs, k_ldR, k_ldA, k_ldI, k_ldB, k_stA, k_stI, k_stB, ldC_some, stC_some, k_mkfn, k_slc, k_slcA, k_ixA, k_ixBs, k_ixSl, k_fadr, k_fld, k_ext, k_len, k_app, k_mn, k_mx, k_nilck, k_build, k_bsl1, k_bsl2, b_add, b_sub, b_mul, b_eql, b_neq, b_lss, b_leq, b_gtr, b_geq, Dn.setLast, Dn.getLast, evalO, mapO, Dn.get, putE, keepE_nil, keepE_cons, kp_some, kp_none, TV.one, TV.isAgg, Dn.part, k_boxR, negb, at0, at1, at2, at3, at4, dT, dF, wrapR_i64, Option.bind_some, Option.map_some, wn, sh0, b_rem, rm]
        rfl, rfl⟩
      generalize (besTo r c x i : Int) = V at *
      obtain ⟨e', f1, f2⟩ := hin V
      have g0 := keep_get f2 (s := 0) (by simp) rfl
      have g1 := keep_get f2 (s := 1) (by simp) rfl
      have g2 := keep_get f2 (s := 2) (by simp) rfl
      have g7 := keep_get f2 (s := 7) (by simp) rfl
      have g8 := keep_get f2 (s := 8) (by simp) rfl
      rw [l67_3, den_loop]
      simp (disch := omega) [l67_3, b67_2, go_nil, go_last, go_past, go_pastR, go_blkN, go_blkR, go_blkE, go_skip, go_exit, go_ret, go_scope, go_seq, go_reg, go_regd, go_opdN, go_opd, go_opdG, grdd_b, grdd_u, stpd_some, find_some, go_block, go_cond, cnd_b, go_opsN, go_ops, go_opsG, grd_b, grd_u, stp_some, fin_some, up_some, cont_some, k_call, k_mv, k_pick, k_bin, k_eqB, k_eqA, k_not, k_neg, k_conv, k_alloc, k_boxA, k_boxI, k_boxB, k_boxN, k_boxBs, k_ldR, k_ldA, k_ldI, k_ldB, k_stA, k_stI, k_stB, ldC_some, stC_some, k_mkfn, k_slc, k_slcA, k_ixA, k_ixBs, k_ixSl, k_fadr, k_fld, k_ext, k_len, k_app, k_mn, k_mx, k_nilck, k_build, k_bsl1, k_bsl2, b_add, b_sub, b_mul, b_eql, b_neq, b_lss, b_leq, b_gtr, b_geq, Dn.setLast, Dn.getLast, evalO, mapO, Dn.get, putE, keepE_nil, keepE_cons, kp_some, kp_none, TV.one, TV.isAgg, Dn.part, k_boxR, negb, at0, at1, at2, at3, at4, dT, dF, wrapR_i64, Option.bind_some, Option.map_some, wn, go_denK (c := l67_1) rfl, f1, g0, g1, g2, g7, g8]

theorem fn67 {pg : Pg} (hF : Free pg) {r c x : Nat} (h : Brd r c) (hx : x < 2 ^ (r * c)) : PFn pg 67 [.i .i64 (r : Int), .i .i64 (c : Int), .i .i64 (x : Int)] (.i .i64 (around r c x : Int)) := by
  obtain ⟨e, e1, e2⟩ := l67_3_all (pg := pg) hF h hx (H := []) (r * c) 0 (by omega)
  have h0 : ((besTo r c x 0 : Nat) : Int) = 0 := rfl
  rw [h0] at e1
  simp only [Int.natCast_zero] at e1
  refine .inr ⟨hF.S _ _ (by decide), .i .i64 (around r c x : Int), [], body_of (x := .ret) (e := [(6, .i .i64 (around r c x : Int))]) (d := d67) (by rw [hF.F]; rfl) rfl ?_ (.inl rfl) rfl, sn_i _ _ _ _⟩
  generalize (around r c x : Int) = P at *
  simp (disch := omega) [d67, c67, zipE, go_nil, go_last, go_past, go_pastR, go_blkN, go_blkR, go_blkE, go_skip, go_exit, go_ret, go_scope, go_seq, go_reg, go_regd, go_opdN, go_opd, go_opdG, grdd_b, grdd_u, stpd_some, find_some, go_block, go_cond, cnd_b, go_opsN, go_ops, go_opsG, grd_b, grd_u, stp_some, fin_some, up_some, cont_some, k_call, k_mv, k_pick, k_bin, k_eqB, k_eqA, k_not, k_neg, k_conv, k_alloc, k_boxA, k_boxI, k_boxB, k_boxN, k_boxBs, k_ldR, k_ldA, k_ldI, k_ldB, k_stA, k_stI, k_stB, ldC_some, stC_some, k_mkfn, k_slc, k_slcA, k_ixA, k_ixBs, k_ixSl, k_fadr, k_fld, k_ext, k_len, k_app, k_mn, k_mx, k_nilck, k_build, k_bsl1, k_bsl2, b_add, b_sub, b_mul, b_eql, b_neq, b_lss, b_leq, b_gtr, b_geq, Dn.setLast, Dn.getLast, evalO, mapO, Dn.get, putE, keepE_nil, keepE_cons, kp_some, kp_none, TV.one, TV.isAgg, Dn.part, k_boxR, negb, at0, at1, at2, at3, at4, dT, dF, wrapR_i64, Option.bind_some, Option.map_some, go_denK (c := l67_3) rfl, e1, e2]

theorem call67 {pg : Pg} (hF : Free pg) {r c x : Nat} (h : Brd r c) (hx : x < 2 ^ (r * c)) (H : Heap) : callRun pg (den pg) (.pu []) [.fn 67 [] [], .i .i64 (r : Int), .i .i64 (c : Int), .i .i64 (x : Int)] H = some (.i .i64 (around r c x : Int), H) := PFn.at (fn67 hF h hx) (fun H => sa_I (sa_I (sa_I sa_0))) H

theorem lt63 {r c : Nat} (h : Brd r c) : 2 ^ (r * c) ≤ 137438953472 := by
  have hn := h.n36
  have := Nat.pow_le_pow_right (n := 2) (by decide) (show r * c ≤ 37 by omega)
  omega

end Go.Proofs.Tryd.Dn

/-
  Knight: tight sets, looked at by the program and by the reference.
-/

namespace Go.Proofs.Tryd.Dn
open Go.Dn

end Go.Proofs.Tryd.Dn

