/-
  Numbers of a taste: round by round.
-/
import Derived.Test.YtgmlmmgpcbollaaDoorQt
set_option linter.unusedSimpArgs false
set_option linter.unusedVariables false

namespace Go.Proofs.Tryd.Dn
open Go.Dn

open Classical in
noncomputable def inG (X : List Obs) (s i k : Nat) : Bool := decide (s.testBit k = true ∧ Rs X s i k ∧ Rs X s k i)
theorem inG_iff {X : List Obs} {s i k : Nat} : inG X s i k = true ↔ s.testBit k = true ∧ Rs X s i k ∧ Rs X s k i := by
  classical
  unfold inG
  rw [decide_eq_true_eq]
theorem group_eq (X : List Obs) (s i : Nat) : groupOf X s i = (List.range X.length).filter (inG X s i) := rfl

theorem call57v {pg : Pg} (hF : Free pg) {X : List Obs} {g : Nat} (hm : Market X g) (H : Heap) : callRun pg (den pg) (.pu []) [.fn 57 [] [], mV X] H = some (.i .i64 ((2 ^ X.length - 1 : Nat) : Int), H) := by
  have h1 := mV_snap X H 6
  exact PFn.call (fn57 hF hm) (args := [mV X]) (by simp [snapArgs, h1])

theorem mV_noagg (X : List Obs) : (mV X).isAgg = false := rfl

theorem l86_1_all {pg : Pg} (hF : Free pg) {X : List Obs} {g : Nat} (hm : Market X g) {s : Nat} (hs : s < 65536) {i : Nat} (hi : i < X.length) {base : Nat} {H0 : Heap} (h0 : H0[0]? = some (.cells [mV X] false)) (hb0 : 0 < base) : ∀ (d k : Nat) (R : TV) (m : List Int) (H : Heap), k + d = X.length → RowInv base H0 H R m → m.length ≤ k →
    ∃ e R' H', den pg l86_1 [(0, .ref 3 0), (1, .ref 0 0), (2, .ref 2 0), (3, .ref 4 0), (4, .i .i64 (s : Int)), (5, R), (6, .i .i64 (i : Int)), (40, .i .i64 (X.length : Int)), (41, .i .i64 (k : Int))] H = some ⟨.exit 2, e, H'⟩ ∧
      keepE [0, 1, 2, 3, 5] e = [(0, .ref 3 0), (1, .ref 0 0), (2, .ref 2 0), (3, .ref 4 0), (5, R')] ∧ RowInv base H0 H' R' (m ++ nI (((List.range X.length).drop k).filter (inG X s i)))
  | 0, k, R, m, H, h, hr, hml => by
    have e1 : ¬ ((k : Int) < (X.length : Int)) := by omega
    refine ⟨[(0, .ref 3 0), (1, .ref 0 0), (2, .ref 2 0), (3, .ref 4 0), (4, .i .i64 (s : Int)), (5, R), (6, .i .i64 (i : Int)), (40, .i .i64 (X.length : Int)), (41, .i .i64 (k : Int)), (42, .b false)], R, H, ?_, rfl, by rw [List.drop_eq_nil_of_le (by simp; omega)]; simpa [nI] using hr⟩
    rw [l86_1, den_loop]
    simp [b86_0, go_nil, go_last, go_past, go_pastR, go_blkN, go_blkR, go_blkE, go_skip, go_exit, go_ret, go_scope, go_seq, go_reg, go_regd, go_opdN, go_opd, go_opdG, grdd_b, grdd_u, stpd_some, find_some, go_block, go_cond, cnd_b, go_opsN, go_ops, go_opsG, grd_b, grd_u, stp_some, fin_some, up_some, cont_some, k_call, k_mv, k_pick, k_bin, k_eqB, k_eqA, k_not, k_neg, k_conv, k_alloc, k_boxA, k_boxI, k_boxB, k_boxN, k_boxBs, k_ldR, k_ldA, k_ldI, k_ldB, k_stA, k_stI, k_stB, ldC_some, stC_some, k_mkfn, k_slc, k_slcA, k_ixA, k_ixBs, k_ixSl, k_fadr, k_fld, k_ext, k_len, k_app, k_mn, k_mx, k_nilck, k_build, k_bsl1, k_bsl2, b_add, b_sub, b_mul, b_eql, b_neq, b_lss, b_leq, b_gtr, b_geq, Dn.setLast, Dn.getLast, evalO, mapO, Dn.get, putE, keepE, TV.one, TV.isAgg, Dn.part, e1]
  | d + 1, k, R, m, H, h, hr, hml => by
    have hn5 := hm.n5
    have hk : k < X.length := by omega
    have e1 : ((k : Int) < (X.length : Int)) := by omega
    have e2 : wrapR .i64 ((k : Int) + 1) = .i .i64 ((k : Int) + 1) := wrapR_i64 (by omega)
    have eU := eU_nat (j := k) (by omega)
    obtain ⟨b1, b2⟩ := bit_run (s := s) (k := k) hs (by omega)
    obtain ⟨r1, c1, w1⟩ := way_q (pg := pg) (t := k) hF hm hs hi
    obtain ⟨r2, c2, w2⟩ := way_q (pg := pg) (t := i) hF hm hs hk
    have n1 := nil_ne (pg := pg) (R := den pg) r1
    have n2 := nil_ne (pg := pg) (R := den pg) r2
    have ldm := ld_box (pg := pg) (R := den pg) (H := H) (t := mV X) (by rw [hr.old 0 hb0]; exact h0) rfl
    rw [range_drop hk, List.filter_cons]
    generalize ((s / 2 ^ k : Nat) : Int) = sh at b1 b2
    by_cases hin : inG X s i k = true
    · obtain ⟨hb, h1, h2⟩ := inG_iff.1 hin
      have hv : bitV s k = 1 := by unfold bitV; rw [hb]; rfl
      rw [hv] at b2
      have d1 : decide (r1 ≠ []) = true := by rw [decide_eq_true_eq]; intro hh; exact w1.1 hh h1
      have d2 : decide (r2 ≠ []) = true := by rw [decide_eq_true_eq]; intro hh; exact w2.1 hh h2
      rw [d1] at n1
      rw [d2] at n2
      obtain ⟨R', H', p1, p2⟩ := hr.push (k : Int) (by omega)
      obtain ⟨e, R2, H2, h3, h4, h5⟩ := l86_1_all hF hm hs hi h0 hb0 d (k + 1) R' _ H' (by omega) p2 (by simp; omega)
      refine ⟨e, R2, H2, Eq.trans ?_ h3, h4, by rw [if_pos hin]; simpa [nI] using h5⟩
      rw [l86_1, den_loop]
      simp [l86_1, b86_0, go_nil, go_last, go_past, go_pastR, go_blkN, go_blkR, go_blkE, go_skip, go_exit, go_ret, go_scope, go_seq, go_reg, go_regd, go_opdN, go_opd, go_opdG, grdd_b, grdd_u, stpd_some, find_some, go_block, go_cond, cnd_b, go_opsN, go_ops, go_opsG, grd_b, grd_u, stp_some, fin_some, up_some, cont_some, k_call, k_mv, k_pick, k_bin, k_eqB, k_eqA, k_not, k_neg, k_conv, k_alloc, k_boxA, k_boxI, k_boxB, k_boxN, k_boxBs, k_ldR, k_ldA, k_ldI, k_ldB, k_stA, k_stI, k_stB, ldC_some, stC_some, k_mkfn, k_slc, k_slcA, k_ixA, k_ixBs, k_ixSl, k_fadr, k_fld, k_ext, k_len, k_app, k_mn, k_mx, k_nilck, k_build, k_bsl1, k_bsl2, b_add, b_sub, b_mul, b_eql, b_neq, b_lss, b_leq, b_gtr, b_geq, Dn.setLast, Dn.getLast, evalO, mapO, Dn.get, putE, keepE, TV.one, TV.isAgg, Dn.part, e1, e2, eU, b1, b2, ldm, hF.G, c1, n1, c2, n2, p1]
    · obtain ⟨e, R2, H2, h3, h4, h5⟩ := l86_1_all hF hm hs hi h0 hb0 d (k + 1) R m H (by omega) hr (by omega)
      refine ⟨e, R2, H2, Eq.trans ?_ h3, h4, by rw [if_neg hin]; exact h5⟩
      rw [l86_1, den_loop]
      cases hb : s.testBit k with
      | false =>
        have hv : bitV s k = 0 := by unfold bitV; rw [hb]; rfl
        rw [hv] at b2
        simp [l86_1, b86_0, go_nil, go_last, go_past, go_pastR, go_blkN, go_blkR, go_blkE, go_skip, go_exit, go_ret, go_scope, go_seq, go_reg, go_regd, go_opdN, go_opd, go_opdG, grdd_b, grdd_u, stpd_some, find_some, go_block, go_cond, cnd_b, go_opsN, go_ops, go_opsG, grd_b, grd_u, stp_some, fin_some, up_some, cont_some, k_call, k_mv, k_pick, k_bin, k_eqB, k_eqA, k_not, k_neg, k_conv, k_alloc, k_boxA, k_boxI, k_boxB, k_boxN, k_boxBs, k_ldR, k_ldA, k_ldI, k_ldB, k_stA, k_stI, k_stB, ldC_some, stC_some, k_mkfn, k_slc, k_slcA, k_ixA, k_ixBs, k_ixSl, k_fadr, k_fld, k_ext, k_len, k_app, k_mn, k_mx, k_nilck, k_build, k_bsl1, k_bsl2, b_add, b_sub, b_mul, b_eql, b_neq, b_lss, b_leq, b_gtr, b_geq, Dn.setLast, Dn.getLast, evalO, mapO, Dn.get, putE, keepE, TV.one, TV.isAgg, Dn.part, e1, e2, eU, b1, b2]
      | true =>
        have hv : bitV s k = 1 := by unfold bitV; rw [hb]; rfl
        rw [hv] at b2
        by_cases h1 : Rs X s i k
        · have h2 : ¬ Rs X s k i := fun hh => hin (inG_iff.2 ⟨hb, h1, hh⟩)
          have d1 : decide (r1 ≠ []) = true := by rw [decide_eq_true_eq]; intro hh; exact w1.1 hh h1
          have d2 : decide (r2 ≠ []) = false := by rw [decide_eq_false_iff_not, Classical.not_not]; exact w2.2 h2
          rw [d1] at n1
          rw [d2] at n2
          simp [l86_1, b86_0, go_nil, go_last, go_past, go_pastR, go_blkN, go_blkR, go_blkE, go_skip, go_exit, go_ret, go_scope, go_seq, go_reg, go_regd, go_opdN, go_opd, go_opdG, grdd_b, grdd_u, stpd_some, find_some, go_block, go_cond, cnd_b, go_opsN, go_ops, go_opsG, grd_b, grd_u, stp_some, fin_some, up_some, cont_some, k_call, k_mv, k_pick, k_bin, k_eqB, k_eqA, k_not, k_neg, k_conv, k_alloc, k_boxA, k_boxI, k_boxB, k_boxN, k_boxBs, k_ldR, k_ldA, k_ldI, k_ldB, k_stA, k_stI, k_stB, ldC_some, stC_some, k_mkfn, k_slc, k_slcA, k_ixA, k_ixBs, k_ixSl, k_fadr, k_fld, k_ext, k_len, k_app, k_mn, k_mx, k_nilck, k_build, k_bsl1, k_bsl2, b_add, b_sub, b_mul, b_eql, b_neq, b_lss, b_leq, b_gtr, b_geq, Dn.setLast, Dn.getLast, evalO, mapO, Dn.get, putE, keepE, TV.one, TV.isAgg, Dn.part, e1, e2, eU, b1, b2, ldm, hF.G, c1, n1, c2, n2]
        · have d1 : decide (r1 ≠ []) = false := by rw [decide_eq_false_iff_not, Classical.not_not]; exact w1.2 h1
          rw [d1] at n1
          simp [l86_1, b86_0, go_nil, go_last, go_past, go_pastR, go_blkN, go_blkR, go_blkE, go_skip, go_exit, go_ret, go_scope, go_seq, go_reg, go_regd, go_opdN, go_opd, go_opdG, grdd_b, grdd_u, stpd_some, find_some, go_block, go_cond, cnd_b, go_opsN, go_ops, go_opsG, grd_b, grd_u, stp_some, fin_some, up_some, cont_some, k_call, k_mv, k_pick, k_bin, k_eqB, k_eqA, k_not, k_neg, k_conv, k_alloc, k_boxA, k_boxI, k_boxB, k_boxN, k_boxBs, k_ldR, k_ldA, k_ldI, k_ldB, k_stA, k_stI, k_stB, ldC_some, stC_some, k_mkfn, k_slc, k_slcA, k_ixA, k_ixBs, k_ixSl, k_fadr, k_fld, k_ext, k_len, k_app, k_mn, k_mx, k_nilck, k_build, k_bsl1, k_bsl2, b_add, b_sub, b_mul, b_eql, b_neq, b_lss, b_leq, b_gtr, b_geq, Dn.setLast, Dn.getLast, evalO, mapO, Dn.get, putE, keepE, TV.one, TV.isAgg, Dn.part, e1, e2, eU, b1, b2, ldm, hF.G, c1, n1]

theorem l86_3_all {pg : Pg} (hF : Free pg) {X : List Obs} {g : Nat} (hm : Market X g) {s : Nat} (hs : s < 65536) {H : Heap} (h0 : H[0]? = some (.cells [mV X] false)) : ∀ (d k : Nat), k + d = X.length → (∃ i, k ≤ i ∧ i < X.length ∧ s.testBit i = true ∧ isTopP X s i) →
    ∃ e R i H', den pg l86_3 [(0, .ref 3 0), (1, .ref 0 0), (2, .ref 2 0), (3, .ref 4 0), (4, .i .i64 (s : Int)), (5, .nilsl), (21, .i .i64 (X.length : Int)), (22, .i .i64 (k : Int))] H = some ⟨.exit 0, e, H'⟩ ∧
      keepE [0, 1, 2, 3, 5] e = [(0, .ref 3 0), (1, .ref 0 0), (2, .ref 2 0), (3, .ref 4 0), (5, R)] ∧ i < X.length ∧ s.testBit i = true ∧ isTopP X s i ∧ RowInv H.length H H' R (nI (groupOf X s i))
  | 0, k, h, ⟨i, h1, h2, _⟩ => by omega
  | d + 1, k, h, hex => by
    have hn5 := hm.n5
    have hk : k < X.length := by omega
    have hl0 := (List.getElem?_eq_some_iff.1 h0).1
    have e1 : ((k : Int) < (X.length : Int)) := by omega
    have e2 : wrapR .i64 ((k : Int) + 1) = .i .i64 ((k : Int) + 1) := wrapR_i64 (by omega)
    have eU := eU_nat (j := k) (by omega)
    obtain ⟨b1, b2⟩ := bit_run (s := s) (k := k) hs (by omega)
    have ldm := ld_box (pg := pg) (R := den pg) (H := H) (t := mV X) h0 rfl
    have fN := fadr_mN (pg := pg) (R := den pg) true (X.length : Int) (costF X) H
    obtain ⟨r, c87, w⟩ := call87 hF hm hs hk
    generalize ((s / 2 ^ k : Nat) : Int) = sh at b1 b2
    by_cases hyes : s.testBit k = true ∧ isTopP X s k
    · obtain ⟨hb, ht⟩ := hyes
      have hv : bitV s k = 1 := by unfold bitV; rw [hb]; rfl
      rw [hv] at b2
      rw [w.2 ht] at c87
      obtain ⟨e, R, H', p1, p2, p3⟩ := l86_1_all hF hm hs hk h0 hl0 X.length 0 .nilsl [] H (by omega) (RowInv.nil H) (by simp)
      rw [List.nil_append, List.drop_zero, ← group_eq] at p3
      simp only [Int.natCast_zero] at p1
      have g0 := keep_get p2 (s := 0) (by simp) rfl
      have g1 := keep_get p2 (s := 1) (by simp) rfl
      have g2 := keep_get p2 (s := 2) (by simp) rfl
      have g3 := keep_get p2 (s := 3) (by simp) rfl
      have g5 := keep_get p2 (s := 5) (by simp) rfl
      refine ⟨e, R, k, H', ?_, p2, hk, hb, ht, p3⟩
      simp only [mV, mX] at ldm fN c87 ⊢
      rw [l86_3, den_loop]
      simp [b86_2, go_nil, go_last, go_past, go_pastR, go_blkN, go_blkR, go_blkE, go_skip, go_exit, go_ret, go_scope, go_seq, go_reg, go_regd, go_opdN, go_opd, go_opdG, grdd_b, grdd_u, stpd_some, find_some, go_block, go_cond, cnd_b, go_opsN, go_ops, go_opsG, grd_b, grd_u, stp_some, fin_some, up_some, cont_some, k_call, k_mv, k_pick, k_bin, k_eqB, k_eqA, k_not, k_neg, k_conv, k_alloc, k_boxA, k_boxI, k_boxB, k_boxN, k_boxBs, k_ldR, k_ldA, k_ldI, k_ldB, k_stA, k_stI, k_stB, ldC_some, stC_some, k_mkfn, k_slc, k_slcA, k_ixA, k_ixBs, k_ixSl, k_fadr, k_fld, k_ext, k_len, k_app, k_mn, k_mx, k_nilck, k_build, k_bsl1, k_bsl2, b_add, b_sub, b_mul, b_eql, b_neq, b_lss, b_leq, b_gtr, b_geq, Dn.setLast, Dn.getLast, evalO, mapO, Dn.get, putE, keepE, TV.one, TV.isAgg, Dn.part, e1, eU, b1, b2, ldm, c87, k_nilckB, fN, go_denK (c := l86_1) rfl, p1]
    · obtain ⟨i, i1, i2, i3, i4⟩ := hex
      have hik : i ≠ k := by rintro rfl; exact hyes ⟨i3, i4⟩
      obtain ⟨e, R, j, H', q1, q2⟩ := l86_3_all hF hm hs h0 d (k + 1) (by omega) ⟨i, by omega, i2, i3, i4⟩
      refine ⟨e, R, j, H', Eq.trans ?_ q1, q2⟩
      rw [l86_3, den_loop]
      cases hb : s.testBit k with
      | false =>
        have hv : bitV s k = 0 := by unfold bitV; rw [hb]; rfl
        rw [hv] at b2
        simp [l86_3, b86_2, go_nil, go_last, go_past, go_pastR, go_blkN, go_blkR, go_blkE, go_skip, go_exit, go_ret, go_scope, go_seq, go_reg, go_regd, go_opdN, go_opd, go_opdG, grdd_b, grdd_u, stpd_some, find_some, go_block, go_cond, cnd_b, go_opsN, go_ops, go_opsG, grd_b, grd_u, stp_some, fin_some, up_some, cont_some, k_call, k_mv, k_pick, k_bin, k_eqB, k_eqA, k_not, k_neg, k_conv, k_alloc, k_boxA, k_boxI, k_boxB, k_boxN, k_boxBs, k_ldR, k_ldA, k_ldI, k_ldB, k_stA, k_stI, k_stB, ldC_some, stC_some, k_mkfn, k_slc, k_slcA, k_ixA, k_ixBs, k_ixSl, k_fadr, k_fld, k_ext, k_len, k_app, k_mn, k_mx, k_nilck, k_build, k_bsl1, k_bsl2, b_add, b_sub, b_mul, b_eql, b_neq, b_lss, b_leq, b_gtr, b_geq, Dn.setLast, Dn.getLast, evalO, mapO, Dn.get, putE, keepE, TV.one, TV.isAgg, Dn.part, e1, e2, eU, b1, b2]
      | true =>
        have hv : bitV s k = 1 := by unfold bitV; rw [hb]; rfl
        rw [hv] at b2
        have hr : r = false := by rw [Bool.eq_false_iff]; intro hh; exact hyes ⟨hb, w.1 hh⟩
        rw [hr] at c87
        simp only [mV, mX] at ldm c87 ⊢
        simp [l86_3, b86_2, go_nil, go_last, go_past, go_pastR, go_blkN, go_blkR, go_blkE, go_skip, go_exit, go_ret, go_scope, go_seq, go_reg, go_regd, go_opdN, go_opd, go_opdG, grdd_b, grdd_u, stpd_some, find_some, go_block, go_cond, cnd_b, go_opsN, go_ops, go_opsG, grd_b, grd_u, stp_some, fin_some, up_some, cont_some, k_call, k_mv, k_pick, k_bin, k_eqB, k_eqA, k_not, k_neg, k_conv, k_alloc, k_boxA, k_boxI, k_boxB, k_boxN, k_boxBs, k_ldR, k_ldA, k_ldI, k_ldB, k_stA, k_stI, k_stB, ldC_some, stC_some, k_mkfn, k_slc, k_slcA, k_ixA, k_ixBs, k_ixSl, k_fadr, k_fld, k_ext, k_len, k_app, k_mn, k_mx, k_nilck, k_build, k_bsl1, k_bsl2, b_add, b_sub, b_mul, b_eql, b_neq, b_lss, b_leq, b_gtr, b_geq, Dn.setLast, Dn.getLast, evalO, mapO, Dn.get, putE, keepE, TV.one, TV.isAgg, Dn.part, e1, e2, eU, b1, b2, ldm, c87]

theorem l86_5_all {pg : Pg} {n : Nat} (hn : n ≤ 5) {GT : TV} {G : List Nat} (hGl : ∀ i ∈ G, i < n) (hGn : G.length ≤ 5) {H : Heap} (hl : 3 < H.length) (hG : ∀ c, elI.View (H.set 3 c) GT (nI G)) : ∀ (d k : Nat) (dn : Nat), k + d = G.length → dn < 2 ^ n →
    ∃ e, den pg l86_5 [(0, .ref 3 0), (3, .ref 4 0), (78, GT), (79, .i .i64 (G.length : Int)), (80, .i .i64 (k : Int))] (H.set 3 (.cells [.i .i64 (dn : Int)] false)) = some ⟨.exit 4, e, H.set 3 (.cells [.i .i64 ((addAll (G.drop k) dn : Nat) : Int)] false)⟩ ∧ Dn.get e 3 = some (.ref 4 0)
  | 0, k, dn, h, hd => by
    have e1 : ¬ ((k : Int) < (G.length : Int)) := by omega
    rw [List.drop_eq_nil_of_le (by omega)]
    refine ⟨[(0, .ref 3 0), (3, .ref 4 0), (78, GT), (79, .i .i64 (G.length : Int)), (80, .i .i64 (k : Int)), (81, .b false)], ?_, rfl⟩
    rw [l86_5, den_loop]
    simp [b86_4, go_nil, go_last, go_past, go_pastR, go_blkN, go_blkR, go_blkE, go_skip, go_exit, go_ret, go_scope, go_seq, go_reg, go_regd, go_opdN, go_opd, go_opdG, grdd_b, grdd_u, stpd_some, find_some, go_block, go_cond, cnd_b, go_opsN, go_ops, go_opsG, grd_b, grd_u, stp_some, fin_some, up_some, cont_some, k_call, k_mv, k_pick, k_bin, k_eqB, k_eqA, k_not, k_neg, k_conv, k_alloc, k_boxA, k_boxI, k_boxB, k_boxN, k_boxBs, k_ldR, k_ldA, k_ldI, k_ldB, k_stA, k_stI, k_stB, ldC_some, stC_some, k_mkfn, k_slc, k_slcA, k_ixA, k_ixBs, k_ixSl, k_fadr, k_fld, k_ext, k_len, k_app, k_mn, k_mx, k_nilck, k_build, k_bsl1, k_bsl2, b_add, b_sub, b_mul, b_eql, b_neq, b_lss, b_leq, b_gtr, b_geq, Dn.setLast, Dn.getLast, evalO, mapO, Dn.get, putE, keepE, TV.one, TV.isAgg, Dn.part, e1, addAll]
  | d + 1, k, dn, h, hd => by
    obtain ⟨p1, p2⟩ := pow5 hn
    have hk : k < G.length := by omega
    have hgk := hGl _ (List.getElem_mem hk)
    have e1 : ((k : Int) < (G.length : Int)) := by omega
    have e2 : wrapR .i64 ((k : Int) + 1) = .i .i64 ((k : Int) + 1) := wrapR_i64 (by omega)
    have eU := eU_nat (j := G[k]) (by omega)
    obtain ⟨HK, hHK⟩ : ∃ HK, HK = H.set 3 (.cells [.i .i64 (dn : Int)] false) := ⟨_, rfl⟩
    have hview : elI.View HK GT (nI G) := by rw [hHK]; exact hG _
    obtain ⟨p, hp, hv⟩ := ixI (pg := pg) (R := den pg) hview (i := k) (x := (G[k] : Int)) (by simp [nI, hk])
    have h3 : HK[3]? = some (.cells [.i .i64 (dn : Int)] false) := by rw [hHK]; exact List.getElem?_set_self hl
    have ld3 := ld_box (pg := pg) (R := den pg) h3 rfl
    have hsh := shl_u (n := G[k]) (by omega)
    have hpw := pow5 (n := G[k]) (by omega)
    have hor := or_run (m := dn) (k := 2 ^ G[k]) (by omega) (by omega)
    have st3 := st_box (pg := pg) (R := den pg) (v := .i .i64 ((dn ||| 2 ^ G[k] : Nat) : Int)) h3 rfl
    rw [hHK, List.set_set, ← hHK] at st3
    obtain ⟨e, q1, q2⟩ := l86_5_all (pg := pg) hn hGl hGn hl hG d (k + 1) (dn ||| 2 ^ G[k]) (by omega) (Nat.or_lt_two_pow hd (Nat.pow_lt_pow_right (by decide) hgk))
    rw [List.drop_eq_getElem_cons hk, show addAll (G[k] :: G.drop (k + 1)) dn = addAll (G.drop (k + 1)) (dn ||| 2 ^ G[k]) from rfl]
    refine ⟨e, Eq.trans ?_ q1, q2⟩
    rw [← hHK]
    generalize ((dn ||| 2 ^ G[k] : Nat) : Int) = dv at *
    generalize ((2 ^ G[k] : Nat) : Int) = pw at *
    generalize (G[k] : Int) = gk at *
    rw [l86_5, den_loop]
    simp [l86_5, b86_4, go_nil, go_last, go_past, go_pastR, go_blkN, go_blkR, go_blkE, go_skip, go_exit, go_ret, go_scope, go_seq, go_reg, go_regd, go_opdN, go_opd, go_opdG, grdd_b, grdd_u, stpd_some, find_some, go_block, go_cond, cnd_b, go_opsN, go_ops, go_opsG, grd_b, grd_u, stp_some, fin_some, up_some, cont_some, k_call, k_mv, k_pick, k_bin, k_eqB, k_eqA, k_not, k_neg, k_conv, k_alloc, k_boxA, k_boxI, k_boxB, k_boxN, k_boxBs, k_ldR, k_ldA, k_ldI, k_ldB, k_stA, k_stI, k_stB, ldC_some, stC_some, k_mkfn, k_slc, k_slcA, k_ixA, k_ixBs, k_ixSl, k_fadr, k_fld, k_ext, k_len, k_app, k_mn, k_mx, k_nilck, k_build, k_bsl1, k_bsl2, b_add, b_sub, b_mul, b_eql, b_neq, b_lss, b_leq, b_gtr, b_geq, Dn.setLast, Dn.getLast, evalO, mapO, Dn.get, putE, keepE, TV.one, TV.isAgg, Dn.part, e1, e2, hp, hv, ld3, eU, hsh, hor, st3]

end Go.Proofs.Tryd.Dn

/-
  Numbers of a taste: the whole search.
-/

namespace Go.Proofs.Tryd.Dn
open Go.Dn

def zeros10 : List TV := List.replicate 10 (.i .i64 0)

structure NM (X : List Obs) (H : Heap) (done : Nat) (u l : Nat → Int) : Prop where
  m : H[0]? = some (.cells [mV X] false)
  r : H[1]? = some (.cells zeros10 true)
  t : H[2]? = some (.cells (tas u l) true)
  d : H[3]? = some (.cells [.i .i64 (done : Int)] false)
  n : H[4]? = some (.cells [.fn 86 [] [.ref 3 0, .ref 0 0, .ref 2 0, .ref 4 0]] false)

theorem NI.mono {X : List Obs} {done : Nat} {u l : Nat → Int} {A B : Int} (h : NI X done u l A) (hB : A ≤ B) : NI X done u l B where
  lt := h.lt
  a0 := Int.le_trans h.a0 hB
  up := h.up
  ur j hj hd := by have := h.ur j hj hd; omega
  lr j hj hd := by have := h.lr j hj hd; omega
  ok := h.ok

theorem body86 {pg : Pg} (hF : Free pg) {X : List Obs} {g : Nat} (hm : Market X g) (hno : ¬ ∃ i k, PairT X.length (pref X 1 1) i k) : ∀ (k done : Nat) (u l : Nat → Int) (r : Nat) (H : Heap), 5 ≤ (bitsOf done).length + k → NM X H done u l → NI X done u l (bnd r) → (r = 0 → ∀ j, j < X.length → done.testBit j = false) → r ≤ (bitsOf done).length →
    ∃ H' u' l', bodyRun pg (den pg) 86 [.ref 3 0, .ref 0 0, .ref 2 0, .ref 4 0] H = some (.tup [], H') ∧ NM X H' (2 ^ X.length - 1) u' l' ∧ NI X (2 ^ X.length - 1) u' l' (bnd 5) := by
  have hd86 : pg.F 86 = some d86 := by rw [hF.F]; rfl
  have hn5 := hm.n5
  obtain ⟨p1, p2⟩ := pow5 hn5
  intro k
  induction k with
  | zero =>
    intro done u l r H hk hN hI h0 hr
    have hlt := hI.lt
    have ld3 := ld_box (pg := pg) (R := den pg) hN.d rfl
    have ldm := ld_box (pg := pg) (R := den pg) hN.m (mV_noagg X)
    have c57 := call57v hF hm H
    have hb := bitsOf_len done
    have hset := bits_set hn5 hlt
    have hle := nodup_len X.length _ hset.nodup hset.lt
    have hall := List.all_eq_true.1 (List.all_eq_true.1 full_bits X.length (List.mem_range.2 (by omega))) done (List.mem_range.2 (by omega))
    have hX5 : X.length = 5 := by omega
    have hdone : done = 2 ^ X.length - 1 := by
      have hle2 : (bitsOf done).length = X.length := by omega
      rw [hle2] at hall
      simpa using hall
    rw [hdone] at ld3 hN hI
    refine ⟨H, u, l, body_ofs (x := .ret) (e := [(0, .ref 3 0), (1, .ref 0 0), (2, .ref 2 0), (3, .ref 4 0), (13, .b true)]) (vs := []) hd86 rfl ?_ (.inl rfl) rfl, hN, hI.mono (bnd_le (by omega))⟩
    generalize ((2 ^ X.length - 1 : Nat) : Int) = al at *
    simp [d86, c86, zipE, go_nil, go_last, go_past, go_pastR, go_blkN, go_blkR, go_blkE, go_skip, go_exit, go_ret, go_scope, go_seq, go_reg, go_regd, go_opdN, go_opd, go_opdG, grdd_b, grdd_u, stpd_some, find_some, go_block, go_cond, cnd_b, go_opsN, go_ops, go_opsG, grd_b, grd_u, stp_some, fin_some, up_some, cont_some, k_call, k_mv, k_pick, k_bin, k_eqB, k_eqA, k_not, k_neg, k_conv, k_alloc, k_boxA, k_boxI, k_boxB, k_boxN, k_boxBs, k_ldR, k_ldA, k_ldI, k_ldB, k_stA, k_stI, k_stB, ldC_some, stC_some, k_mkfn, k_slc, k_slcA, k_ixA, k_ixBs, k_ixSl, k_fadr, k_fld, k_ext, k_len, k_app, k_mn, k_mx, k_nilck, k_build, k_bsl1, k_bsl2, b_add, b_sub, b_mul, b_eql, b_neq, b_lss, b_leq, b_gtr, b_geq, Dn.setLast, Dn.getLast, evalO, mapO, Dn.get, putE, keepE, TV.one, TV.isAgg, Dn.part, ld3, ldm, c57]
  | succ k ih =>
    intro done u l r H hk hN hI h0 hr
    have hlt := hI.lt
    have ld3 := ld_box (pg := pg) (R := den pg) hN.d rfl
    have ldm := ld_box (pg := pg) (R := den pg) hN.m (mV_noagg X)
    have c57 := call57v hF hm H
    have hl4 := (List.getElem?_eq_some_iff.1 hN.n).1
    by_cases hall : done = 2 ^ X.length - 1
    · have hb := bitsOf_len done
      rw [hall] at ld3 hN hI
      refine ⟨H, u, l, body_ofs (x := .ret) (e := [(0, .ref 3 0), (1, .ref 0 0), (2, .ref 2 0), (3, .ref 4 0), (13, .b true)]) (vs := []) hd86 rfl ?_ (.inl rfl) rfl, hN, hI.mono (bnd_le (by omega))⟩
      generalize ((2 ^ X.length - 1 : Nat) : Int) = al at *
      simp [d86, c86, zipE, go_nil, go_last, go_past, go_pastR, go_blkN, go_blkR, go_blkE, go_skip, go_exit, go_ret, go_scope, go_seq, go_reg, go_regd, go_opdN, go_opd, go_opdG, grdd_b, grdd_u, stpd_some, find_some, go_block, go_cond, cnd_b, go_opsN, go_ops, go_opsG, grd_b, grd_u, stp_some, fin_some, up_some, cont_some, k_call, k_mv, k_pick, k_bin, k_eqB, k_eqA, k_not, k_neg, k_conv, k_alloc, k_boxA, k_boxI, k_boxB, k_boxN, k_boxBs, k_ldR, k_ldA, k_ldI, k_ldB, k_stA, k_stI, k_stB, ldC_some, stC_some, k_mkfn, k_slc, k_slcA, k_ixA, k_ixBs, k_ixSl, k_fadr, k_fld, k_ext, k_len, k_app, k_mn, k_mx, k_nilck, k_build, k_bsl1, k_bsl2, b_add, b_sub, b_mul, b_eql, b_neq, b_lss, b_leq, b_gtr, b_geq, Dn.setLast, Dn.getLast, evalO, mapO, Dn.get, putE, keepE, TV.one, TV.isAgg, Dn.part, ld3, ldm, c57]
    · have hne : ((done : Int) == ((2 ^ X.length - 1 : Nat) : Int)) = false := by simp; omega
      have hand := andNot_run hn5 hlt
      obtain ⟨_, hleft⟩ := left_fact hn5 hlt
      obtain ⟨s, hsd⟩ : ∃ s, s = 2 ^ X.length - 1 - done := ⟨_, rfl⟩
      rw [← hsd] at hand hleft
      have hs : s < 65536 := by omega
      have hsb : ∀ x, x < X.length → s.testBit x = !done.testBit x := fun x hx => by rw [hleft x (by omega)]; simp [hx]
      have hset := bits_set hn5 hlt
      -- one that is left
      have hex : ∃ x, x < X.length ∧ done.testBit x = false := by
        apply Classical.byContradiction
        intro hh
        apply hall
        have hall2 := List.all_eq_true.1 (List.all_eq_true.1 full_bits X.length (List.mem_range.2 (by omega))) done (List.mem_range.2 (by omega))
        have hle2 : (bitsOf done).length = X.length := by
          have h1 := nodup_len X.length _ hset.nodup hset.lt
          have h2 := sub_length (a := List.range X.length) (b := bitsOf done) List.nodup_range fun x hx => by
            have hx' : x < X.length := by simpa using hx
            refine (hset.bit x hx').1 ?_
            cases hb : done.testBit x with
            | true => rfl
            | false => exact absurd ⟨x, hx', hb⟩ hh
          simp at h2
          omega
        rw [hle2] at hall2
        simpa using hall2
      obtain ⟨x0, hx0, hbx0⟩ := hex
      obtain ⟨j, j1, j2, j3⟩ := top_ex (X := X) (s := s) X.length x0 (by omega) hx0 (by rw [hsb x0 hx0, hbx0]; rfl)
      obtain ⟨e, R, i, H1, q1, q2, i1, i2, i3, q3⟩ := l86_3_all hF hm hs hN.m X.length 0 (by omega) ⟨j, by omega, j1, j2, j3⟩
      obtain ⟨hG, hiG⟩ := group_is hm hno hsb i1 i2 i3
      simp only [Int.natCast_zero] at q1
      have g0 := keep_get q2 (s := 0) (by simp) rfl
      have g1 := keep_get q2 (s := 1) (by simp) rfl
      have g2 := keep_get q2 (s := 2) (by simp) rfl
      have g3 := keep_get q2 (s := 3) (by simp) rfl
      have g5 := keep_get q2 (s := 5) (by simp) rfl
      generalize hGG : groupOf X s i = G at *
      have hGn : G.length ≤ 5 := by
        have : G.Nodup := by rw [← hGG]; exact List.Pairwise.filter _ List.nodup_range
        have := nodup_len X.length G this hG.lt
        omega
      -- the bits after
      obtain ⟨a1, a2⟩ := addAll_spec (n := X.length) G done hG.lt hlt
      have hstep := hI.step hm h0 hG a1 fun x _ => a2 x
      have hlen : (bitsOf done).length + 1 ≤ (bitsOf (addAll G done)).length := by
        have hset' := bits_set hn5 a1
        have := sub_length (a := bitsOf done ++ [i]) (b := bitsOf (addAll G done)) (by
          rw [List.nodup_append]
          refine ⟨hset.nodup, by simp, fun a ha b hb => ?_⟩
          simp at hb; subst hb; rintro rfl
          have := (hset.bit a i1).2 ha
          rw [hG.left a hiG] at this; cases this) (by
          intro x hx
          rcases List.mem_append.1 hx with hx | hx
          · have hxl := hset.lt x hx
            exact (hset'.bit x hxl).1 ((a2 x).2 (.inl ((hset.bit x hxl).2 hx)))
          · simp at hx; subst hx
            exact (hset'.bit x i1).1 ((a2 x).2 (.inr hiG)))
        simpa using this
      have hlen5 := bitsOf_len (addAll G done)
      have hb5 := bnd5
      have hbr := bnd_le (show r ≤ 5 by omega)
      have hbr1 := bnd_le (show r + 1 ≤ 5 by omega)
      have hSm : Sm X done u l := ⟨fun j hj hd => by have := hI.ur j hj hd; omega, fun j hj hd => by have := hI.lr j hj hd; omega⟩
      have hul := uGroup_le (X := X) (done := done) (u := u) (l := l) G 0
      have hu0 : -100000000000000 ≤ uGroup X done u l G 0 := by
        have := hstep.ur i i1 ((a2 i).2 (.inr hiG))
        unfold uNew at this
        rw [if_pos hiG] at this
        omega
      have hu1 : ∀ j, j < X.length → done.testBit j = true → uGroup X done u l G 0 ≤ u j := fun j hj hd => (hul.2 i hiG j hj hd).1
      -- memory
      have hRid : ∀ id, R.idOf = some id → 5 ≤ id := fun id hid => by have := q3.new id hid; omega
      have hl1 := q3.len
      have old1 : ∀ j, j < 5 → H1[j]? = H[j]? := fun j hj => q3.old j (by omega)
      have ldm1 := ld_box (pg := pg) (R := den pg) (H := H1) (t := mV X) (by rw [old1 0 (by omega)]; exact hN.m) (mV_noagg X)
      have ld31 := ld_box (pg := pg) (R := den pg) (H := H1) (id := 3) (t := .i .i64 (done : Int)) (by rw [old1 3 (by omega)]; exact hN.d) rfl
      have hT1 : H1[2]? = some (.cells (tas u l) true) := by rw [old1 2 (by omega)]; exact hN.t
      have hvw : ∀ (id : Nat) c, id < 5 → elI.View (H1.set id c) R (nI G) := fun id c hid => (q3.own.mono fun x hx => by have := hRid x hx; rw [List.getElem?_set_ne (by omega)]).view
      -- values
      obtain ⟨e3, r1, r2⟩ := l88_3_all hF hm (done := done) (by omega) hSm hT1 q3.own.view hG.lt hGn G.length 0 0 (by omega)
      simp only [Int.natCast_zero, List.drop_zero] at r1 r2
      have w0 := keep_get r2 (s := 0) (by simp) rfl
      have w1 := keep_get r2 (s := 1) (by simp) rfl
      have w2 := keep_get r2 (s := 2) (by simp) rfl
      have w3 := keep_get r2 (s := 3) (by simp) rfl
      have w8 := keep_get r2 (s := 8) (by simp) rfl
      obtain ⟨e7, s1⟩ := l88_7_all hF hm (done := done) (by omega) hSm hu0 hu1 (tid := 2) (H := H1) (by omega) (GT := R) (fun c => hvw 2 c (by omega)) hG.lt hG.left hGn G.length 0 (by omega)
      have hsame : H1.set 2 (.cells (tas (uNew u (uGroup X done u l G 0) (G.take 0)) (lNew X done u l (uGroup X done u l G 0) (G.take 0))) true) = H1 := by
        have hu : uNew u (uGroup X done u l G 0) (G.take 0) = u := by funext x; simp [uNew]
        have hl : lNew X done u l (uGroup X done u l G 0) (G.take 0) = l := by funext x; simp [lNew]
        rw [hu, hl]
        apply List.ext_getElem?
        intro x
        by_cases hx : x = 2
        · subst hx; rw [List.getElem?_set_self (by omega)]; exact hT1.symm
        · rw [List.getElem?_set_ne (by omega)]
      rw [hsame] at s1
      simp only [Int.natCast_zero] at s1
      have hlR := q3.own.view.lenK
      rw [nI_len] at hlR
      obtain ⟨H2, hH2⟩ : ∃ H2, H2 = H1.set 2 (.cells (tas (uNew u (uGroup X done u l G 0) G) (lNew X done u l (uGroup X done u l G 0) G)) true) := ⟨_, rfl⟩
      rw [← hH2] at s1
      have hb88 : bodyRun pg (den pg) 88 [mV X, .ref 2 0, .i .i64 (done : Int), R] H1 = some (.tup [], H2) := by
        refine body_ofs (x := .normal) (e := e7) (vs := []) (d := d88) (by rw [hF.F]; rfl) rfl ?_ (.inr rfl) rfl
        simp [d88, c88, zipE, go_nil, go_last, go_past, go_pastR, go_blkN, go_blkR, go_blkE, go_skip, go_exit, go_ret, go_scope, go_seq, go_reg, go_regd, go_opdN, go_opd, go_opdG, grdd_b, grdd_u, stpd_some, find_some, go_block, go_cond, cnd_b, go_opsN, go_ops, go_opsG, grd_b, grd_u, stp_some, fin_some, up_some, cont_some, k_call, k_mv, k_pick, k_bin, k_eqB, k_eqA, k_not, k_neg, k_conv, k_alloc, k_boxA, k_boxI, k_boxB, k_boxN, k_boxBs, k_ldR, k_ldA, k_ldI, k_ldB, k_stA, k_stI, k_stB, ldC_some, stC_some, k_mkfn, k_slc, k_slcA, k_ixA, k_ixBs, k_ixSl, k_fadr, k_fld, k_ext, k_len, k_app, k_mn, k_mx, k_nilck, k_build, k_bsl1, k_bsl2, b_add, b_sub, b_mul, b_eql, b_neq, b_lss, b_leq, b_gtr, b_geq, Dn.setLast, Dn.getLast, evalO, mapO, Dn.get, putE, keepE, TV.one, TV.isAgg, Dn.part, hlR, go_denK (c := l88_3) rfl, r1, w0, w1, w2, w3, w8, go_denK (c := l88_7) rfl, s1]
      have hl2 : H2.length = H1.length := by rw [hH2]; simp
      have old2 : ∀ j, j ≠ 2 → H2[j]? = H1[j]? := fun j hj => by rw [hH2]; exact List.getElem?_set_ne (by omega)
      have hv2 : ∀ c, elI.View (H2.set 3 c) R (nI G) := fun c => (q3.own.mono fun x hx => by have := hRid x hx; rw [List.getElem?_set_ne (by omega), old2 x (by omega)]).view
      obtain ⟨e5, t1, t2⟩ := l86_5_all (pg := pg) hn5 hG.lt hGn (H := H2) (by omega) hv2 G.length 0 done (by omega) hlt
      have hsame2 : H2.set 3 (.cells [.i .i64 (done : Int)] false) = H2 := by
        apply List.ext_getElem?
        intro x
        by_cases hx : x = 3
        · subst hx; rw [List.getElem?_set_self (by omega), old2 3 (by omega), old1 3 (by omega)]; exact hN.d.symm
        · rw [List.getElem?_set_ne (by omega)]
      rw [hsame2] at t1
      simp only [Int.natCast_zero, List.drop_zero] at t1
      obtain ⟨H3, hH3⟩ : ∃ H3, H3 = H2.set 3 (.cells [.i .i64 ((addAll G done : Nat) : Int)] false) := ⟨_, rfl⟩
      rw [← hH3] at t1
      have old3 : ∀ j, j ≠ 3 → H3[j]? = H2[j]? := fun j hj => by rw [hH3]; exact List.getElem?_set_ne (by omega)
      have hN3 : NM X H3 (addAll G done) (uNew u (uGroup X done u l G 0) G) (lNew X done u l (uGroup X done u l G 0) G) :=
        ⟨by rw [old3 0 (by omega), old2 0 (by omega), old1 0 (by omega)]; exact hN.m, by rw [old3 1 (by omega), old2 1 (by omega), old1 1 (by omega)]; exact hN.r,
          by rw [old3 2 (by omega), hH2]; exact List.getElem?_set_self (by omega), by rw [hH3]; exact List.getElem?_set_self (by omega), by rw [old3 4 (by omega), old2 4 (by omega), old1 4 (by omega)]; exact hN.n⟩
      have ldn := ld_box (pg := pg) (R := den pg) hN3.n rfl
      have hlR2 : lenK 0 R H2 = some G.length := hlR H2
      obtain ⟨H', u', l', z1, z2, z3⟩ := ih (addAll G done) _ _ (r + 1) H3 (by omega) hN3 hstep (fun h => by omega) (by omega)
      refine ⟨H', u', l', body_ofs (x := .normal) (e := []) (vs := []) hd86 rfl ?_ (.inr rfl) rfl, z2, z3⟩
      generalize ((2 ^ X.length - 1 : Nat) : Int) = al at *
      generalize (s : Int) = si at *
      have fN := fadr_mN (pg := pg) (R := den pg) true (X.length : Int) (costF X) H
      simp only [mV, mX] at ldm c57 fN ldm1 hb88 ⊢
      simp [d86, c86, zipE, go_nil, go_last, go_past, go_pastR, go_blkN, go_blkR, go_blkE, go_skip, go_exit, go_ret, go_scope, go_seq, go_reg, go_regd, go_opdN, go_opd, go_opdG, grdd_b, grdd_u, stpd_some, find_some, go_block, go_cond, cnd_b, go_opsN, go_ops, go_opsG, grd_b, grd_u, stp_some, fin_some, up_some, cont_some, k_call, k_mv, k_pick, k_bin, k_eqB, k_eqA, k_not, k_neg, k_conv, k_alloc, k_boxA, k_boxI, k_boxB, k_boxN, k_boxBs, k_ldR, k_ldA, k_ldI, k_ldB, k_stA, k_stI, k_stB, ldC_some, stC_some, k_mkfn, k_slc, k_slcA, k_ixA, k_ixBs, k_ixSl, k_fadr, k_fld, k_ext, k_len, k_app, k_mn, k_mx, k_nilck, k_build, k_bsl1, k_bsl2, b_add, b_sub, b_mul, b_eql, b_neq, b_lss, b_leq, b_gtr, b_geq, Dn.setLast, Dn.getLast, evalO, mapO, Dn.get, putE, keepE, TV.one, TV.isAgg, Dn.part, ld3, ldm, c57, hne, hand, k_nilckB, fN, go_denK (c := l86_3) rfl, q1, g0, g1, g2, g3, g5, ldm1, ld31, sh_fn, hb88, hlR2, go_denK (c := l86_5) rfl, t1, t2, ldn, z1]

end Go.Proofs.Tryd.Dn

/-
  Numbers of a taste: the program's Numbers.
-/

namespace Go.Proofs.Tryd.Dn
open Go.Dn

theorem NI.init {X : List Obs} {g : Nat} (hm : Market X g) : NI X 0 (fun _ => 0) (fun _ => 0) (bnd 0) where
  lt := by have := (pow5 hm.n5).1; omega
  a0 := Int.le_refl _
  up i j _ _ _ h := by simp at h
  ur j _ h := by simp at h
  lr j _ h := by simp at h
  ok i k _ _ h := by simp at h

theorem ld10 {pg : Pg} {R : Rec} {H : Heap} {id : Nat} {u l : Nat → Int} (h : H[id]? = some (.cells (tas u l) true)) : dkc pg R (.ld 10 true) [.ref id 0] H = some (.agg (tas u l), H) := by
  rw [k_ldR, h, ldC_some]; simp [Dn.part, tas_len, up]
  rw [List.take_of_length_le (by rw [tas_len]; exact Nat.le_refl _)]

theorem tas_one (u l : Nat → Int) : (tas u l).all TV.one = true := rfl

theorem st10 {pg : Pg} {R : Rec} {H : Heap} {id : Nat} (h : H[id]? = some (.cells zeros10 true)) (u l : Nat → Int) : dkc pg R (.st 10) [.ref id 0, .agg (tas u l)] H = some (.undef, H.set id (.cells (tas u l) true)) := by
  rw [k_stA, h, stC_some, if_pos ⟨tas_len u l, tas_one u l, by simp [zeros10]⟩]
  congr 3

theorem fn72 {pg : Pg} (hF : Free pg) {X : List Obs} {g : Nat} (hm : Market X g) (hno : ¬ ∃ i k, PairT X.length (pref X 1 1) i k) : ∃ u l, PFn pg 72 [mV X] (.agg (tas u l)) ∧ NI X (2 ^ X.length - 1) u l (bnd 5) := by
  obtain ⟨H0, hH0⟩ : ∃ H0 : Heap, H0 = [.cells [mV X] false, .cells zeros10 true, .cells zeros10 true, .cells [.i .i64 0] false, .cells [.fn 86 [] [.ref 3 0, .ref 0 0, .ref 2 0, .ref 4 0]] false] := ⟨_, rfl⟩
  have hN : NM X H0 0 (fun _ => 0) (fun _ => 0) := by rw [hH0]; exact ⟨rfl, rfl, rfl, rfl, rfl⟩
  obtain ⟨H', u, l, h1, h2, h3⟩ := body86 hF hm hno 5 0 (fun _ => 0) (fun _ => 0) 0 H0 (by omega) hN (NI.init hm) (fun _ j _ => by simp) (Nat.zero_le _)
  refine ⟨u, l, ?_, h3⟩
  have ldT := ld10 (pg := pg) (R := den pg) h2.t
  have stR := st10 (pg := pg) (R := den pg) h2.r u l
  have hl1 := (List.getElem?_eq_some_iff.1 h2.r).1
  have hbx : dkc pg (den pg) (.box false) [mV X] [] = some (.ref 0 0, [.cells [mV X] false]) := k_box _ _ rfl
  have hz : List.replicate 10 (TV.i .i64 0) = zeros10 := rfl
  have s3 := st_box (pg := pg) (R := den pg) (H := [.cells [mV X] false, .cells zeros10 true, .cells zeros10 true, .cells [.i .i64 0] false]) (id := 3) (v := .i .i64 0) rfl rfl
  have s4 := st_box (pg := pg) (R := den pg) (H := [.cells [mV X] false, .cells zeros10 true, .cells zeros10 true, .cells [.i .i64 0] false, .cells [.nilfn] false]) (id := 4) (v := .fn 86 [] [.ref 3 0, .ref 0 0, .ref 2 0, .ref 4 0]) rfl rfl
  simp only [List.set_cons_succ, List.set_cons_zero] at s3 s4
  rw [← hH0] at s4
  have l4 := ld_box (pg := pg) (R := den pg) (H := H0) (id := 4) (t := .fn 86 [] [.ref 3 0, .ref 0 0, .ref 2 0, .ref 4 0]) hN.n rfl
  refine .of_go (x := .ret) (e := [(2, .ref 1 0)]) (H' := H'.set 1 (.cells (tas u l) true)) (vs := [.agg (tas u l)]) (hF.S _ _ (by decide)) (d := d72) (by rw [hF.F]; rfl) rfl ?_ (.inl rfl) (by
    simp [d72, mapO, resRun, Dn.get, dk, Dn.part, hl1, tas_len]
    rw [List.take_of_length_le (by rw [tas_len]; exact Nat.le_refl _)]) (by
    show Dn.snap .fin _ 9 (.agg (tas u l)) = _
    rw [sn_agg]
    have : mapO (Dn.snap .fin (H'.set 1 (.cells (tas u l) true)) 8) (tas u l) = some (tas u l) := by
      simp [tas, List.range, List.range.loop, mapO, sn8_i]
    rw [this]; rfl)
  generalize mV X = mv at *
  simp [d72, c72, zipE, go_nil, go_last, go_past, go_pastR, go_blkN, go_blkR, go_blkE, go_skip, go_exit, go_ret, go_scope, go_seq, go_reg, go_regd, go_opdN, go_opd, go_opdG, grdd_b, grdd_u, stpd_some, find_some, go_block, go_cond, cnd_b, go_opsN, go_ops, go_opsG, grd_b, grd_u, stp_some, fin_some, up_some, cont_some, k_call, k_mv, k_pick, k_bin, k_eqB, k_eqA, k_not, k_neg, k_conv, k_alloc, k_boxA, k_boxI, k_boxB, k_boxN, k_boxBs, k_ldR, k_ldA, k_ldI, k_ldB, k_stA, k_stI, k_stB, ldC_some, stC_some, k_mkfn, k_slc, k_slcA, k_ixA, k_ixBs, k_ixSl, k_fadr, k_fld, k_ext, k_len, k_app, k_mn, k_mx, k_nilck, k_build, k_bsl1, k_bsl2, b_add, b_sub, b_mul, b_eql, b_neq, b_lss, b_leq, b_gtr, b_geq, Dn.setLast, Dn.getLast, evalO, mapO, Dn.get, putE, keepE, TV.one, TV.isAgg, Dn.part, hbx, hz, s3, s4, l4, sh_fn, h1, ldT, stR]

/-- the first of each five, as lists -/
def firstN (u : Nat → Int) (n : Nat) : List Int := (List.range n).map u
theorem firstN_len (u : Nat → Int) (n : Nat) : (firstN u n).length = n := by simp [firstN]
theorem firstN_get (u : Nat → Int) {n i : Nat} (h : i < n) : (firstN u n)[i]? = some (u i) := by simp [firstN, h]

theorem tasView {u l : Nat → Int} {n : Nat} (hn : n ≤ 5) {id : Nat} {H : Heap} (h : H[id]? = some (.cells (tas u l) true)) :
    elI.View H (.sl id 0 1 false n (some 5)) (firstN u n) ∧ elI.View H (.sl id 5 1 false n (some 5)) (firstN l n) := by
  constructor
  · refine .inr (.inr ⟨id, 0, some 5, tas u l, true, by rw [firstN_len]; rfl, by rw [firstN_len]; simpa using hn, h, by rw [firstN_len, tas_len]; show 0 + n * 1 ≤ 10; omega, ?_⟩)
    rw [firstN_len, elI_flat_map]
    show ((tas u l).drop 0).take (n * 1) = _
    rw [Nat.mul_one, List.drop_zero]
    apply List.ext_getElem?
    intro k
    by_cases hk : k < n
    · rw [List.getElem?_take, if_pos hk, tas_u _ _ (by omega), List.getElem?_map, firstN_get _ hk]; rfl
    · rw [List.getElem?_eq_none (by simp; omega), List.getElem?_eq_none (by simp [firstN]; omega)]
  · refine .inr (.inr ⟨id, 5, some 5, tas u l, true, by rw [firstN_len]; rfl, by rw [firstN_len]; simpa using hn, h, by rw [firstN_len, tas_len]; show 5 + n * 1 ≤ 10; omega, ?_⟩)
    rw [firstN_len, elI_flat_map]
    show ((tas u l).drop 5).take (n * 1) = _
    rw [Nat.mul_one]
    apply List.ext_getElem?
    intro k
    by_cases hk : k < n
    · rw [List.getElem?_take, if_pos hk, List.getElem?_drop, tas_l _ _ (by omega), List.getElem?_map, firstN_get _ hk]; rfl
    · rw [List.getElem?_eq_none (by simp; omega), List.getElem?_eq_none (by simp [firstN]; omega)]

theorem body73 {pg : Pg} (hF : Free pg) {l : List Int} (hne : l ≠ []) (hl : l.length ≤ 1000000) {t : TV} {H : Heap} (hv : elI.View H t l) (hn : t ≠ .nilsl) :
    ∃ R H1, bodyRun pg (den pg) 73 [t] H = some (R, H1) ∧ RowG elI H.length H H1 R l := by
  obtain ⟨en, happ, hR⟩ := clone_run (pg := pg) hne hl hv hn
  have hb : dkc pg (den pg) (.bsl false [.i .i64 0] false 0 []) [] H = some (.sl H.length 0 1 false 0 (some 0), H ++ [.cells [] false]) := rfl
  refine ⟨_, _, body_of (x := .ret) (e := [(2, .sl (H.length + 1) 0 1 false l.length none)]) (d := d73) (by rw [hF.F]; rfl) rfl ?_ (.inl rfl) rfl, hR⟩
  simp [d73, c73, zipE, go_nil, go_last, go_past, go_pastR, go_blkN, go_blkR, go_blkE, go_skip, go_exit, go_ret, go_scope, go_seq, go_reg, go_regd, go_opdN, go_opd, go_opdG, grdd_b, grdd_u, stpd_some, find_some, go_block, go_cond, cnd_b, go_opsN, go_ops, go_opsG, grd_b, grd_u, stp_some, fin_some, up_some, cont_some, k_call, k_mv, k_pick, k_bin, k_eqB, k_eqA, k_not, k_neg, k_conv, k_alloc, k_boxA, k_boxI, k_boxB, k_boxN, k_boxBs, k_ldR, k_ldA, k_ldI, k_ldB, k_stA, k_stI, k_stB, ldC_some, stC_some, k_mkfn, k_slc, k_slcA, k_ixA, k_ixBs, k_ixSl, k_fadr, k_fld, k_ext, k_len, k_app, k_mn, k_mx, k_nilck, k_build, k_bsl1, k_bsl2, b_add, b_sub, b_mul, b_eql, b_neq, b_lss, b_leq, b_gtr, b_geq, Dn.setLast, Dn.getLast, evalO, mapO, Dn.get, putE, keepE, TV.one, TV.isAgg, Dn.part, en, hb, happ]

theorem slcT {H : Heap} {id off n : Nat} {u l : Nat → Int} (h : H[id]? = some (.cells (tas u l) true)) (hn : n ≤ 5) (ho : off ≤ 5) : slcARun false true false 5 1 false (.ref id off) [.i .i64 (n : Int)] H = some (.sl id off 1 false n (some 5)) := by
  have hb3 : bounds3 false true false 5 [.i .i64 (n : Int)] = some (0, n, none) := by simp [bounds3, bound]
  have hl := tas_len u l
  have ho' : off + 5 ≤ 10 := by omega
  simp [slcARun, hb3, h, hl, hn, ho']

/-- the program's numbers of a taste -/
theorem body35 {pg : Pg} (hF : Free pg) {X : List Obs} {g : Nat} (hm : Market X g) {T : TV} (hT : Rws T X) :
    (∃ i k, PairT X.length (pref X 1 1) i k) ∧ (∀ H, ∃ H', bodyRun pg (den pg) 35 [T] H = some (.tup [.nilsl, .nilsl, .b false, .i .i64 0], H') ∧ H.length ≤ H'.length ∧ ∀ j, j < H.length → H'[j]? = H[j]?) ∨
    (¬ ∃ i k, PairT X.length (pref X 1 1) i k) ∧ ∃ u l, NI X (2 ^ X.length - 1) u l (bnd 5) ∧ ∀ H, ∃ w1 w2 H', bodyRun pg (den pg) 35 [T] H = some (.tup [w1, w2, .b true, .i .i64 0], H') ∧ H.length ≤ H'.length ∧ (∀ j, j < H.length → H'[j]? = H[j]?) ∧
      elI.Own H' w1 (firstN u X.length) ∧ elI.Own H' w2 (firstN l X.length) ∧ (∀ id, w1.idOf = some id → H.length ≤ id ∧ w2.idOf ≠ some id) ∧ ∀ id, w2.idOf = some id → H.length ≤ id := by
  have hn5 := hm.n5
  have hn1 := hm.n1
  have hd : pg.F 35 = some d35 := by rw [hF.F]; rfl
  obtain ⟨r, c60, r1, _⟩ := call60 hF hm (all_small hm) (ba := 1) (bb := 1) (by omega) (by omega)
  have hnn := nil_ne (pg := pg) (R := den pg) r
  have hpair : (∃ i k, Pair X (2 ^ X.length - 1) 1 1 i k) ↔ ∃ i k, PairT X.length (pref X 1 1) i k := ⟨fun ⟨i, k, h⟩ => ⟨i, k, pair_iff.1 h⟩, fun ⟨i, k, h⟩ => ⟨i, k, pair_iff.2 h⟩⟩
  by_cases hring : ∃ i k, PairT X.length (pref X 1 1) i k
  · refine .inl ⟨hring, fun H => ?_⟩
    obtain ⟨H1, h1, h2, h3, h4⟩ := body53 hF hm (P := .nilsl) (P' := .nilsl) (ps := []) hT (.inl ⟨rfl, rfl⟩) (by simp) (by simp) (H := H) (sn_nil _ _)
    have c57 := call57 hF hm h2
    have c60' := c60 H1 _ h2
    have hne : r ≠ [] := fun hr => r1.1 hr (hpair.2 hring)
    have hdn : decide (r ≠ []) = true := by simpa using hne
    rw [hdn] at hnn
    refine ⟨H1, body_ofs (x := .ret) (e := [(2, .nilsl), (3, .nilsl), (4, .b false), (5, .i .i64 0)]) (vs := [.nilsl, .nilsl, .b false, .i .i64 0]) hd rfl ?_ (.inl rfl) rfl, by omega, h4⟩
    generalize ((2 ^ X.length - 1 : Nat) : Int) = al at *
    simp [d35, c35, zipE, go_nil, go_last, go_past, go_pastR, go_blkN, go_blkR, go_blkE, go_skip, go_exit, go_ret, go_scope, go_seq, go_reg, go_regd, go_opdN, go_opd, go_opdG, grdd_b, grdd_u, stpd_some, find_some, go_block, go_cond, cnd_b, go_opsN, go_ops, go_opsG, grd_b, grd_u, stp_some, fin_some, up_some, cont_some, k_call, k_mv, k_pick, k_bin, k_eqB, k_eqA, k_not, k_neg, k_conv, k_alloc, k_boxA, k_boxI, k_boxB, k_boxN, k_boxBs, k_ldR, k_ldA, k_ldI, k_ldB, k_stA, k_stI, k_stB, ldC_some, stC_some, k_mkfn, k_slc, k_slcA, k_ixA, k_ixBs, k_ixSl, k_fadr, k_fld, k_ext, k_len, k_app, k_mn, k_mx, k_nilck, k_build, k_bsl1, k_bsl2, b_add, b_sub, b_mul, b_eql, b_neq, b_lss, b_leq, b_gtr, b_geq, Dn.setLast, Dn.getLast, evalO, mapO, Dn.get, putE, keepE, TV.one, TV.isAgg, Dn.part, sh_fn, h1, c57, hF.G, c60', hnn]
  · refine .inr ⟨hring, ?_⟩
    have hr : r = [] := r1.2 fun h => hring (hpair.1 h)
    have hdn : decide (r ≠ []) = false := by simpa using hr
    rw [hdn] at hnn
    obtain ⟨u, l, f72, hI⟩ := fn72 hF hm hring
    refine ⟨u, l, hI, fun H => ?_⟩
    obtain ⟨H1, h1, h2, h3, h4⟩ := body53 hF hm (P := .nilsl) (P' := .nilsl) (ps := []) hT (.inl ⟨rfl, rfl⟩) (by simp) (by simp) (H := H) (sn_nil _ _)
    have c57 := call57 hF hm h2
    have c60' := c60 H1 _ h2
    have c72 := PFn.call f72 (args := [.ref H.length 0]) (ks := []) (fs := []) (cs := []) (H := H1) (by simp [snapArgs, mR_snap h2 7])
    obtain ⟨HT, hHT⟩ : ∃ HT, HT = H1 ++ [.cells (tas u l) true] := ⟨_, rfl⟩
    have hTl : HT.length = H1.length + 1 := by rw [hHT]; simp
    have hT : HT[H1.length]? = some (.cells (tas u l) true) := by rw [hHT]; exact getLast _ _
    have hM : HT[H.length]? = some (.cells (mX X) true) := by rw [hHT, List.getElem?_append_left h3]; exact h2
    have st := st10 (pg := pg) (R := den pg) (H := H1 ++ [.cells zeros10 true]) (id := H1.length) (getLast _ _) u l
    rw [Dn.setLast, ← hHT] at st
    have hN := ld_mN (pg := pg) (R := den pg) hM
    have s1 := slcT (n := X.length) (off := 0) hT hn5 (by omega)
    obtain ⟨v1, v2⟩ := tasView (n := X.length) hn5 hT
    have ne : ∀ f : Nat → Int, firstN f X.length ≠ [] := fun f he => by have := congrArg List.length he; rw [firstN_len, List.length_nil] at this; omega
    obtain ⟨w1, HU, c1, g1⟩ := body73 hF (ne u) (by rw [firstN_len]; omega) v1 (by simp)
    have hUl := g1.len
    have hTU : HU[H1.length]? = some (.cells (tas u l) true) := by rw [g1.old _ (by omega)]; exact hT
    have hMU : HU[H.length]? = some (.cells (mX X) true) := by rw [g1.old _ (by omega)]; exact hM
    have hNU := ld_mN (pg := pg) (R := den pg) hMU
    have s2 := slcT (n := X.length) (off := 5) hTU hn5 (by omega)
    obtain ⟨_, v2⟩ := tasView (n := X.length) hn5 hTU
    obtain ⟨w2, HV, c2, g2⟩ := body73 hF (ne l) (by rw [firstN_len]; omega) v2 (by simp)
    have hVl := g2.len
    have hz : List.replicate 10 (TV.i .i64 0) = zeros10 := rfl
    refine ⟨w1, w2, HV, body_ofs (x := .ret) (e := [(2, w1), (3, w2), (4, .b true), (5, .i .i64 0)]) (vs := [w1, w2, .b true, .i .i64 0]) hd rfl ?_ (.inl rfl) rfl, by omega, fun j hj => ?_, g1.own.mono fun id hid => g2.old id (g1.own.lt id hid), g2.own,
      fun id hid => ⟨by have := g1.new id hid; omega, fun he => ?_⟩, fun id hid => by have := g2.new id hid; omega⟩
    · generalize ((2 ^ X.length - 1 : Nat) : Int) = al at *
      have hNd : dk (.ld 1 false) [.ref H.length 0] HT = some (.i .i64 (X.length : Int), HT) := hN
      have hNUd : dk (.ld 1 false) [.ref H.length 0] HU = some (.i .i64 (X.length : Int), HU) := hNU
      have sd1 : dk (.slcA false true false 5 1 false) [.ref H1.length 5, .i .i64 (X.length : Int)] HT = some (.sl H1.length 5 1 false X.length (some 5), HT) := by
        simp only [dk, slcT (n := X.length) (off := 5) hT hn5 (by omega)]; rfl
      have sd2 : dk (.slcA false true false 5 1 false) [.ref H1.length 5, .i .i64 (X.length : Int)] HU = some (.sl H1.length 5 1 false X.length (some 5), HU) := by
        simp only [dk, s2]; rfl
      simp [d35, c35, zipE, go_nil, go_last, go_past, go_pastR, go_blkN, go_blkR, go_blkE, go_skip, go_exit, go_ret, go_scope, go_seq, go_reg, go_regd, go_opdN, go_opd, go_opdG, grdd_b, grdd_u, stpd_some, find_some, go_block, go_cond, cnd_b, go_opsN, go_ops, go_opsG, grd_b, grd_u, stp_some, fin_some, up_some, cont_some, k_call, k_mv, k_pick, k_bin, k_eqB, k_eqA, k_not, k_neg, k_conv, k_alloc, k_boxA, k_boxI, k_boxB, k_boxN, k_boxBs, k_ldR, k_ldA, k_ldI, k_ldB, k_stA, k_stI, k_stB, ldC_some, stC_some, k_mkfn, k_slc, k_slcA, k_ixA, k_ixBs, k_ixSl, k_fadr, k_fld, k_ext, k_len, k_app, k_mn, k_mx, k_nilck, k_build, k_bsl1, k_bsl2, b_add, b_sub, b_mul, b_eql, b_neq, b_lss, b_leq, b_gtr, b_geq, Dn.setLast, Dn.getLast, evalO, mapO, Dn.get, putE, keepE, TV.one, TV.isAgg, Dn.part, sh_fn, h1, c57, hF.G, c60', hnn, c72, hz, st, hN, s1, hNU, s2, c1, c2, frOk, ldSame, Dn.same, guardRun, DK.isLd, hNd, hNUd, sd1, sd2]
    · rw [g2.old j (by omega), g1.old j (by omega), hHT, List.getElem?_append_left (by omega)]
      exact h4 j hj
    · have := g2.new id he
      have := g1.own.lt id hid
      omega

end Go.Proofs.Tryd.Dn

