/-
  Knight: the law of walks.
-/
import Derived.Test.YtdjbpmgbaggfbaaDoorKe
set_option linter.unusedSimpArgs false
set_option linter.unusedVariables false

namespace Go.Proofs.Tryd.Dn
open Go.Dn

/-- a number brought under another, as the program does it -/
theorem conv_rem (v : Int) {n : Nat} (hn : 1 ≤ n) (hb : n ≤ 36) : ∃ w m : Nat, wrapR .u64 v = .i .u64 (w : Int) ∧ binI .rem (.i .u64 (w : Int)) (.i .u64 (n : Int)) = some (.i .u64 (m : Int)) ∧ m < n ∧ wrapR .i64 (m : Int) = .i .i64 (m : Int) := by
  obtain ⟨w, hw⟩ : ∃ w : Nat, IntKind.wrap .u64 v = (w : Int) := ⟨(IntKind.wrap .u64 v).toNat, by simp only [IntKind.wrap, IntKind.signed, IntKind.bits, Bool.false_and, Bool.false_eq_true, if_false]; omega⟩
  have hm : w % n < n := Nat.mod_lt _ (by omega)
  refine ⟨w, w % n, by unfold wrapR; rw [hw], ?_, hm, wrapR_i64 (by omega)⟩
  rw [b_rem, if_neg (by omega), tmod_nat w n]

theorem wrap_un {n : Nat} (hb : n ≤ 36) : wrapR .u64 (n : Int) = .i .u64 (n : Int) := wrap_u (by omega)

theorem l4_1_all {pg : Pg} (hF : Free pg) {r c a b : Nat} (h : Brd r c) (ha : a < r * c) (hb : b < r * c) {H : Heap} : ∀ (d i : Nat) (q : Int), i + d = 2 →
    ∃ e, den pg l4_1 [(0, .i .i64 (r : Int)), (1, .i .i64 (c : Int)), (7, .i .i64 (a : Int)), (8, .i .i64 (b : Int)), (9, .i .i64 q), (10, .i .i64 (i : Int))] H = some ⟨.exit 0, e, H⟩
  | 0, i, q, hd => by
    have e1 : ¬ ((i : Int) < 2) := by omega
    refine ⟨[(0, .i .i64 (r : Int)), (1, .i .i64 (c : Int)), (7, .i .i64 (a : Int)), (8, .i .i64 (b : Int)), (9, .i .i64 q), (10, .i .i64 (i : Int)), (40, .b false)], ?_⟩
    rw [l4_1, den_loop]
    simp [b4_0, go_nil, go_last, go_past, go_pastR, go_blkN, go_blkR, go_blkE, go_skip, go_exit, go_ret, go_scope, go_seq, go_reg, go_regd, go_opdN, go_opd, go_opdG, grdd_b, grdd_u, stpd_some, find_some, go_block, go_cond, cnd_b, go_opsN, go_ops, go_opsG, grd_b, grd_u, stp_some, fin_some, up_some, cont_some, k_call, k_mv, k_pick, k_bin, k_eqB, k_eqA, k_not, k_neg, k_conv, k_alloc, k_boxA, k_boxI, k_boxB, k_boxN, k_boxBs, k_ldR, k_ldA, k_ldI, k_ldB, k_stA, k_stI, k_stB, ldC_some, stC_some, k_mkfn, k_slc, k_slcA, k_ixA, k_ixBs, k_ixSl, k_fadr, k_fld, k_ext, k_len, k_app, k_mn, k_mx, k_nilck, k_build, k_bsl1, k_bsl2, b_add, b_sub, b_mul, b_eql, b_neq, b_lss, b_leq, b_gtr, b_geq, Dn.setLast, Dn.getLast, evalO, mapO, Dn.get, putE, keepE, TV.one, TV.isAgg, Dn.part, e1]
  | d + 1, i, q, hd => by
    have e1 : ((i : Int) < 2) := by omega
    have e2 : wrapR .i64 ((i : Int) + 1) = .i .i64 ((i : Int) + 1) := wrapR_i64 (by omega)
    obtain ⟨w, m, w1, w2, w3, w4⟩ := conv_rem q (n := 16) (by omega) (by omega)
    have w2' : binI .rem (.i .u64 (w : Int)) (.i .u64 16) = some (.i .u64 (m : Int)) := w2
    obtain ⟨e, k1⟩ := l4_1_all hF h ha hb (H := H) d (i + 1) (m : Int) (by omega)
    have c26 := fun K => PFn.call (fn26 hF h ha hb q) (args := [.i .i64 (r : Int), .i .i64 (c : Int), .i .i64 (a : Int), .i .i64 (b : Int), .i .i64 q]) (ks := []) (fs := []) (cs := []) (H := K) (by simp [snapArgs, sn_i])
    refine ⟨e, Eq.trans ?_ k1⟩
    rw [l4_1, den_loop]
    by_cases hq : q < 0 ∨ 15 < q
    · rw [if_pos hq] at c26
      by_cases q1 : q < 0
      · simp [l4_1, b4_0, go_nil, go_last, go_past, go_pastR, go_blkN, go_blkR, go_blkE, go_skip, go_exit, go_ret, go_scope, go_seq, go_reg, go_regd, go_opdN, go_opd, go_opdG, grdd_b, grdd_u, stpd_some, find_some, go_block, go_cond, cnd_b, go_opsN, go_ops, go_opsG, grd_b, grd_u, stp_some, fin_some, up_some, cont_some, k_call, k_mv, k_pick, k_bin, k_eqB, k_eqA, k_not, k_neg, k_conv, k_alloc, k_boxA, k_boxI, k_boxB, k_boxN, k_boxBs, k_ldR, k_ldA, k_ldI, k_ldB, k_stA, k_stI, k_stB, ldC_some, stC_some, k_mkfn, k_slc, k_slcA, k_ixA, k_ixBs, k_ixSl, k_fadr, k_fld, k_ext, k_len, k_app, k_mn, k_mx, k_nilck, k_build, k_bsl1, k_bsl2, b_add, b_sub, b_mul, b_eql, b_neq, b_lss, b_leq, b_gtr, b_geq, Dn.setLast, Dn.getLast, evalO, mapO, Dn.get, putE, keepE, TV.one, TV.isAgg, Dn.part, e1, e2, c26, q1, w1, w2', w4]
      · have q2 : 15 < q := by omega
        simp [l4_1, b4_0, go_nil, go_last, go_past, go_pastR, go_blkN, go_blkR, go_blkE, go_skip, go_exit, go_ret, go_scope, go_seq, go_reg, go_regd, go_opdN, go_opd, go_opdG, grdd_b, grdd_u, stpd_some, find_some, go_block, go_cond, cnd_b, go_opsN, go_ops, go_opsG, grd_b, grd_u, stp_some, fin_some, up_some, cont_some, k_call, k_mv, k_pick, k_bin, k_eqB, k_eqA, k_not, k_neg, k_conv, k_alloc, k_boxA, k_boxI, k_boxB, k_boxN, k_boxBs, k_ldR, k_ldA, k_ldI, k_ldB, k_stA, k_stI, k_stB, ldC_some, stC_some, k_mkfn, k_slc, k_slcA, k_ixA, k_ixBs, k_ixSl, k_fadr, k_fld, k_ext, k_len, k_app, k_mn, k_mx, k_nilck, k_build, k_bsl1, k_bsl2, b_add, b_sub, b_mul, b_eql, b_neq, b_lss, b_leq, b_gtr, b_geq, Dn.setLast, Dn.getLast, evalO, mapO, Dn.get, putE, keepE, TV.one, TV.isAgg, Dn.part, e1, e2, c26, q1, q2, w1, w2', w4]
    · rw [if_neg hq] at c26
      have q1 : ¬ q < 0 := by omega
      have q2 : ¬ 15 < q := by omega
      obtain ⟨k, hk⟩ : ∃ k : Nat, q = (k : Int) := ⟨q.toNat, by omega⟩
      subst hk
      rw [Int.toNat_natCast] at c26
      have c27 := fun K => PFn.call (fn27 hF h ha hb (q := k) (by omega)) (args := [.i .i64 (r : Int), .i .i64 (c : Int), .i .i64 (a : Int), .i .i64 (b : Int), .i .i64 (k : Int)]) (ks := []) (fs := []) (cs := []) (H := K) (by simp [snapArgs, sn_i])
      generalize (walks r c a k b : Int) = W at *
      simp [l4_1, b4_0, go_nil, go_last, go_past, go_pastR, go_blkN, go_blkR, go_blkE, go_skip, go_exit, go_ret, go_scope, go_seq, go_reg, go_regd, go_opdN, go_opd, go_opdG, grdd_b, grdd_u, stpd_some, find_some, go_block, go_cond, cnd_b, go_opsN, go_ops, go_opsG, grd_b, grd_u, stp_some, fin_some, up_some, cont_some, k_call, k_mv, k_pick, k_bin, k_eqB, k_eqA, k_not, k_neg, k_conv, k_alloc, k_boxA, k_boxI, k_boxB, k_boxN, k_boxBs, k_ldR, k_ldA, k_ldI, k_ldB, k_stA, k_stI, k_stB, ldC_some, stC_some, k_mkfn, k_slc, k_slcA, k_ixA, k_ixBs, k_ixSl, k_fadr, k_fld, k_ext, k_len, k_app, k_mn, k_mx, k_nilck, k_build, k_bsl1, k_bsl2, b_add, b_sub, b_mul, b_eql, b_neq, b_lss, b_leq, b_gtr, b_geq, Dn.setLast, Dn.getLast, evalO, mapO, Dn.get, putE, keepE, TV.one, TV.isAgg, Dn.part, e1, e2, c26, c27, q1, q2, w1, w2', w4]

theorem run4 {pg : Pg} (hF : Free pg) (h25 : PFn pg 25 [] (.b true)) (x y u v s : Int) : ∃ H, bodyRun pg (den pg) 4 [.i .i64 x, .i .i64 y, .agg [.i .i64 u, .i .i64 v, .i .i64 s]] [] = some (.b true, H) := by
  obtain ⟨r, c, h, c18⟩ := call18 hF x y
  have hn := h.n36
  have h1 : 1 ≤ r * c := Nat.mul_pos h.r1 h.c1
  obtain ⟨hcast, wn⟩ := rc_facts h
  obtain ⟨wa, a, a1, a2, a3, a4⟩ := conv_rem u h1 hn
  obtain ⟨wb, b, b1, b2, b3, b4⟩ := conv_rem v h1 hn
  have un := wrap_un hn
  rw [hcast] at un a2 b2
  have c25 := fun H => PFn.call h25 (args := []) (ks := []) (fs := []) (cs := []) (H := H) (by simp [snapArgs])
  obtain ⟨H0, hH0⟩ : ∃ H0 : Heap, H0 = [.cells [.i .i64 u, .i .i64 v, .i .i64 s] true] := ⟨_, rfl⟩
  have bx : dkc pg (den pg) (.box true) [.agg [.i .i64 u, .i .i64 v, .i .i64 s]] [] = some (.ref 0 0, H0) := by
    rw [k_boxA _ _ (by rfl), hH0]; rfl
  have x0 : dkc pg (den pg) (.ixA 3 1 false) [.ref 0 0, .i .i64 0] H0 = some (.ref 0 0, H0) := by rw [hH0]; rfl
  have x1 : dkc pg (den pg) (.ixA 3 1 false) [.ref 0 0, .i .i64 1] H0 = some (.ref 0 1, H0) := by rw [hH0]; rfl
  have x2 : dkc pg (den pg) (.ixA 3 1 false) [.ref 0 0, .i .i64 2] H0 = some (.ref 0 2, H0) := by rw [hH0]; rfl
  have y0 : dkc pg (den pg) (.ld 1 false) [.ref 0 0] H0 = some (.i .i64 u, H0) := by rw [hH0]; rfl
  have y1 : dkc pg (den pg) (.ld 1 false) [.ref 0 1] H0 = some (.i .i64 v, H0) := by rw [hH0]; rfl
  have y2 : dkc pg (den pg) (.ld 1 false) [.ref 0 2] H0 = some (.i .i64 s, H0) := by rw [hH0]; rfl
  obtain ⟨e, k1⟩ := l4_1_all hF h a3 b3 (H := H0) 2 0 s rfl
  simp only [Int.natCast_zero] at k1
  refine ⟨H0, body_of (x := .ret) (e := [(6, .b true)]) (d := d4) (by rw [hF.F]; rfl) rfl ?_ (.inl rfl) rfl⟩
  simp [d4, c4, zipE, go_nil, go_last, go_past, go_pastR, go_blkN, go_blkR, go_blkE, go_skip, go_exit, go_ret, go_scope, go_seq, go_reg, go_regd, go_opdN, go_opd, go_opdG, grdd_b, grdd_u, stpd_some, find_some, go_block, go_cond, cnd_b, go_opsN, go_ops, go_opsG, grd_b, grd_u, stp_some, fin_some, up_some, cont_some, k_call, k_mv, k_pick, k_bin, k_eqB, k_eqA, k_not, k_neg, k_conv, k_alloc, k_boxA, k_boxI, k_boxB, k_boxN, k_boxBs, k_ldR, k_ldA, k_ldI, k_ldB, k_stA, k_stI, k_stB, ldC_some, stC_some, k_mkfn, k_slc, k_slcA, k_ixA, k_ixBs, k_ixSl, k_fadr, k_fld, k_ext, k_len, k_app, k_mn, k_mx, k_nilck, k_build, k_bsl1, k_bsl2, b_add, b_sub, b_mul, b_eql, b_neq, b_lss, b_leq, b_gtr, b_geq, Dn.setLast, Dn.getLast, evalO, mapO, Dn.get, putE, keepE, TV.one, TV.isAgg, Dn.part, bx, x0, x1, x2, y0, y1, y2, c18, wn, a1, a2, a4, b1, b2, b4, un, go_denK (c := l4_1) rfl, k1, c25]

end Go.Proofs.Tryd.Dn

