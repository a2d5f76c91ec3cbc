/-
  Knight: what is refused.
-/
import Derived.Test.YtdjbpmgbaggfbaaDoorKfs
import Derived.Test.YtdjbpmgbaggfbaaDoorKfp
import Derived.Test.YtdjbpmgbaggfbaaDoorKe
import Derived.Test.YtdjbpmgbaggfbaaDoorKf9
import Derived.Test.YtdjbpmgbaggfbaaDoorKfg
set_option linter.unusedSimpArgs false
set_option linter.unusedVariables false

namespace Go.Proofs.Tryd.Dn
open Go.Dn

def OkN (x y : Int) : Prop := 1 ≤ x ∧ 1 ≤ y ∧ x ≤ 8 ∧ y ≤ 8 ∧ x * y ≤ 36

theorem mul64 {x y : Int} (h1 : 1 ≤ x) (h2 : 1 ≤ y) (h3 : x ≤ 8) (h4 : y ≤ 8) : 1 ≤ x * y ∧ x * y ≤ 64 := by
  have a := Int.mul_le_mul h3 h4 (by omega) (by omega)
  have b := Int.mul_le_mul h1 h2 (by omega) (by omega)
  omega

theorem OkN.brd {x y : Int} (h : OkN x y) : ∃ r c : Nat, Brd r c ∧ x = (r : Int) ∧ y = (c : Int) := by
  obtain ⟨h1, h2, h3, h4, h5⟩ := h
  obtain ⟨r, rfl⟩ : ∃ r : Nat, x = (r : Int) := ⟨x.toNat, by omega⟩
  obtain ⟨c, rfl⟩ : ∃ c : Nat, y = (c : Int) := ⟨y.toNat, by omega⟩
  have h6 : ((r * c : Nat) : Int) ≤ 36 := by rw [Int.natCast_mul]; exact h5
  exact ⟨r, c, ⟨by omega, by omega, by omega, by omega, by omega⟩, rfl, rfl⟩

theorem bad59 {pg : Pg} (hF : Free pg) {x y : Int} (hb : ¬ OkN x y) (t : TV) (H : Heap) : bodyRun pg (den pg) 59 [.i .i64 x, .i .i64 y, t] H = some (.tup [.nilp, .i .i64 1], H) := by
  refine body_ofs (x := .ret) (e := [(6, .nilp), (7, .i .i64 1)]) (vs := [.nilp, .i .i64 1]) (d := d59) (by rw [hF.F]; rfl) rfl ?_ (.inl rfl) rfl
  by_cases hA : (if y < x then y else x) < 1
  · simp [d59, c59, zipE, go_nil, go_last, go_past, go_pastR, go_blkN, go_blkR, go_blkE, go_skip, go_exit, go_ret, go_scope, go_seq, go_reg, go_regd, go_opdN, go_opd, go_opdG, grdd_b, grdd_u, stpd_some, find_some, go_block, go_cond, cnd_b, go_opsN, go_ops, go_opsG, grd_b, grd_u, stp_some, fin_some, up_some, cont_some, k_call, k_mv, k_pick, k_bin, k_eqB, k_eqA, k_not, k_neg, k_conv, k_alloc, k_boxA, k_boxI, k_boxB, k_boxN, k_boxBs, k_ldR, k_ldA, k_ldI, k_ldB, k_stA, k_stI, k_stB, ldC_some, stC_some, k_mkfn, k_slc, k_slcA, k_ixA, k_ixBs, k_ixSl, k_fadr, k_fld, k_ext, k_len, k_app, k_mn, k_mx, k_nilck, k_build, k_bsl1, k_bsl2, b_add, b_sub, b_mul, b_eql, b_neq, b_lss, b_leq, b_gtr, b_geq, Dn.setLast, Dn.getLast, evalO, mapO, Dn.get, putE, keepE, TV.one, TV.isAgg, Dn.part, hA]
  · by_cases hB : 8 < (if x < y then y else x)
    · simp [d59, c59, zipE, go_nil, go_last, go_past, go_pastR, go_blkN, go_blkR, go_blkE, go_skip, go_exit, go_ret, go_scope, go_seq, go_reg, go_regd, go_opdN, go_opd, go_opdG, grdd_b, grdd_u, stpd_some, find_some, go_block, go_cond, cnd_b, go_opsN, go_ops, go_opsG, grd_b, grd_u, stp_some, fin_some, up_some, cont_some, k_call, k_mv, k_pick, k_bin, k_eqB, k_eqA, k_not, k_neg, k_conv, k_alloc, k_boxA, k_boxI, k_boxB, k_boxN, k_boxBs, k_ldR, k_ldA, k_ldI, k_ldB, k_stA, k_stI, k_stB, ldC_some, stC_some, k_mkfn, k_slc, k_slcA, k_ixA, k_ixBs, k_ixSl, k_fadr, k_fld, k_ext, k_len, k_app, k_mn, k_mx, k_nilck, k_build, k_bsl1, k_bsl2, b_add, b_sub, b_mul, b_eql, b_neq, b_lss, b_leq, b_gtr, b_geq, Dn.setLast, Dn.getLast, evalO, mapO, Dn.get, putE, keepE, TV.one, TV.isAgg, Dn.part, hA, hB]
    · have h1 : 1 ≤ x ∧ 1 ≤ y := by split at hA <;> omega
      have h2 : x ≤ 8 ∧ y ≤ 8 := by split at hB <;> omega
      obtain ⟨m1, m2⟩ := mul64 h1.1 h1.2 h2.1 h2.2
      have hC : 36 < x * y := by
        apply Classical.byContradiction
        intro hc
        exact hb ⟨h1.1, h1.2, h2.1, h2.2, by omega⟩
      have wn : wrapR .i64 (x * y) = .i .i64 (x * y) := wrapR_i64 (by omega)
      simp [d59, c59, zipE, go_nil, go_last, go_past, go_pastR, go_blkN, go_blkR, go_blkE, go_skip, go_exit, go_ret, go_scope, go_seq, go_reg, go_regd, go_opdN, go_opd, go_opdG, grdd_b, grdd_u, stpd_some, find_some, go_block, go_cond, cnd_b, go_opsN, go_ops, go_opsG, grd_b, grd_u, stp_some, fin_some, up_some, cont_some, k_call, k_mv, k_pick, k_bin, k_eqB, k_eqA, k_not, k_neg, k_conv, k_alloc, k_boxA, k_boxI, k_boxB, k_boxN, k_boxBs, k_ldR, k_ldA, k_ldI, k_ldB, k_stA, k_stI, k_stB, ldC_some, stC_some, k_mkfn, k_slc, k_slcA, k_ixA, k_ixBs, k_ixSl, k_fadr, k_fld, k_ext, k_len, k_app, k_mn, k_mx, k_nilck, k_build, k_bsl1, k_bsl2, b_add, b_sub, b_mul, b_eql, b_neq, b_lss, b_leq, b_gtr, b_geq, Dn.setLast, Dn.getLast, evalO, mapO, Dn.get, putE, keepE, TV.one, TV.isAgg, Dn.part, hA, hB, wn, hC]

def Bad (pg : Pg) (x y : Int) (ps : List Int) : Prop := ∀ (t : TV) (H : Heap), elI.View H t ps → ∃ H', bodyRun pg (den pg) 59 [.i .i64 x, .i .i64 y, t] H = some (.tup [.nilp, .i .i64 1], H')

theorem bad_board {pg : Pg} (hF : Free pg) {x y : Int} (hb : ¬ OkN x y) (ps : List Int) : Bad pg x y ps := fun t H _ => ⟨H, bad59 hF hb t H⟩
theorem bad_square {pg : Pg} (hF : Free pg) {r c : Nat} (h : Brd r c) {ps : List Int} (hl : ps.length ≤ 9223372036854775807) (hp : ps.any (outB ((r * c : Nat) : Int)) = true) : Bad pg (r : Int) (c : Int) ps := fun t H ht => by
  obtain ⟨H', h1, _⟩ := body59 (pg := pg) hF h ht hl
  rw [hp] at h1
  exact ⟨H', by simpa using h1⟩

theorem two_v (H : Heap) (a b : Int) : elI.View (H ++ [.cells [.i .i64 a, .i .i64 b] false]) (.sl H.length 0 1 false 2 (some 2)) [a, b] :=
  .inr (.inr ⟨H.length, 0, some 2, _, false, rfl, by simp, getLast _ _, by simp [elI], by simp [elI, El.flat]⟩)

theorem fn57 {pg : Pg} (hF : Free pg) (x y : Int) : (OkN x y → PFn pg 57 [.i .i64 x, .i .i64 y] (.b true)) ∧ (¬ OkN x y → PFn pg 57 [.i .i64 x, .i .i64 y] (.b false)) := by
  have run : ∀ b, (OkN x y ↔ b = true) → PFn pg 57 [.i .i64 x, .i .i64 y] (.b b) := fun b hb => by
    refine .inr ⟨hF.S _ _ (by decide), .b b, [], body_of (x := .ret) (e := [(4, .b b)]) (d := d57) (by rw [hF.F]; rfl) rfl ?_ (.inl rfl) rfl, sn_b _ _ _⟩
    by_cases h1 : 1 ≤ x
    · by_cases h2 : 1 ≤ y
      · by_cases h3 : x ≤ 8
        · by_cases h4 : y ≤ 8
          · obtain ⟨m1, m2⟩ := mul64 h1 h2 h3 h4
            have wn : wrapR .i64 (x * y) = .i .i64 (x * y) := wrapR_i64 (by omega)
            by_cases h5 : x * y ≤ 36
            · obtain rfl : b = true := hb.1 ⟨h1, h2, h3, h4, h5⟩
              simp [d57, c57, zipE, go_nil, go_last, go_past, go_pastR, go_blkN, go_blkR, go_blkE, go_skip, go_exit, go_ret, go_scope, go_seq, go_reg, go_regd, go_opdN, go_opd, go_opdG, grdd_b, grdd_u, stpd_some, find_some, go_block, go_cond, cnd_b, go_opsN, go_ops, go_opsG, grd_b, grd_u, stp_some, fin_some, up_some, cont_some, k_call, k_mv, k_pick, k_bin, k_eqB, k_eqA, k_not, k_neg, k_conv, k_alloc, k_boxA, k_boxI, k_boxB, k_boxN, k_boxBs, k_ldR, k_ldA, k_ldI, k_ldB, k_stA, k_stI, k_stB, ldC_some, stC_some, k_mkfn, k_slc, k_slcA, k_ixA, k_ixBs, k_ixSl, k_fadr, k_fld, k_ext, k_len, k_app, k_mn, k_mx, k_nilck, k_build, k_bsl1, k_bsl2, b_add, b_sub, b_mul, b_eql, b_neq, b_lss, b_leq, b_gtr, b_geq, Dn.setLast, Dn.getLast, evalO, mapO, Dn.get, putE, keepE, TV.one, TV.isAgg, Dn.part, h1, h2, h3, h4, wn, h5]
            · obtain rfl : b = false := by cases b; rfl; exact absurd (hb.2 rfl).2.2.2.2 h5
              simp [d57, c57, zipE, go_nil, go_last, go_past, go_pastR, go_blkN, go_blkR, go_blkE, go_skip, go_exit, go_ret, go_scope, go_seq, go_reg, go_regd, go_opdN, go_opd, go_opdG, grdd_b, grdd_u, stpd_some, find_some, go_block, go_cond, cnd_b, go_opsN, go_ops, go_opsG, grd_b, grd_u, stp_some, fin_some, up_some, cont_some, k_call, k_mv, k_pick, k_bin, k_eqB, k_eqA, k_not, k_neg, k_conv, k_alloc, k_boxA, k_boxI, k_boxB, k_boxN, k_boxBs, k_ldR, k_ldA, k_ldI, k_ldB, k_stA, k_stI, k_stB, ldC_some, stC_some, k_mkfn, k_slc, k_slcA, k_ixA, k_ixBs, k_ixSl, k_fadr, k_fld, k_ext, k_len, k_app, k_mn, k_mx, k_nilck, k_build, k_bsl1, k_bsl2, b_add, b_sub, b_mul, b_eql, b_neq, b_lss, b_leq, b_gtr, b_geq, Dn.setLast, Dn.getLast, evalO, mapO, Dn.get, putE, keepE, TV.one, TV.isAgg, Dn.part, h1, h2, h3, h4, wn, h5]
          · obtain rfl : b = false := by cases b; rfl; exact absurd (hb.2 rfl).2.2.2.1 h4
            simp [d57, c57, zipE, go_nil, go_last, go_past, go_pastR, go_blkN, go_blkR, go_blkE, go_skip, go_exit, go_ret, go_scope, go_seq, go_reg, go_regd, go_opdN, go_opd, go_opdG, grdd_b, grdd_u, stpd_some, find_some, go_block, go_cond, cnd_b, go_opsN, go_ops, go_opsG, grd_b, grd_u, stp_some, fin_some, up_some, cont_some, k_call, k_mv, k_pick, k_bin, k_eqB, k_eqA, k_not, k_neg, k_conv, k_alloc, k_boxA, k_boxI, k_boxB, k_boxN, k_boxBs, k_ldR, k_ldA, k_ldI, k_ldB, k_stA, k_stI, k_stB, ldC_some, stC_some, k_mkfn, k_slc, k_slcA, k_ixA, k_ixBs, k_ixSl, k_fadr, k_fld, k_ext, k_len, k_app, k_mn, k_mx, k_nilck, k_build, k_bsl1, k_bsl2, b_add, b_sub, b_mul, b_eql, b_neq, b_lss, b_leq, b_gtr, b_geq, Dn.setLast, Dn.getLast, evalO, mapO, Dn.get, putE, keepE, TV.one, TV.isAgg, Dn.part, h1, h2, h3, h4]
        · obtain rfl : b = false := by cases b; rfl; exact absurd (hb.2 rfl).2.2.1 h3
          simp [d57, c57, zipE, go_nil, go_last, go_past, go_pastR, go_blkN, go_blkR, go_blkE, go_skip, go_exit, go_ret, go_scope, go_seq, go_reg, go_regd, go_opdN, go_opd, go_opdG, grdd_b, grdd_u, stpd_some, find_some, go_block, go_cond, cnd_b, go_opsN, go_ops, go_opsG, grd_b, grd_u, stp_some, fin_some, up_some, cont_some, k_call, k_mv, k_pick, k_bin, k_eqB, k_eqA, k_not, k_neg, k_conv, k_alloc, k_boxA, k_boxI, k_boxB, k_boxN, k_boxBs, k_ldR, k_ldA, k_ldI, k_ldB, k_stA, k_stI, k_stB, ldC_some, stC_some, k_mkfn, k_slc, k_slcA, k_ixA, k_ixBs, k_ixSl, k_fadr, k_fld, k_ext, k_len, k_app, k_mn, k_mx, k_nilck, k_build, k_bsl1, k_bsl2, b_add, b_sub, b_mul, b_eql, b_neq, b_lss, b_leq, b_gtr, b_geq, Dn.setLast, Dn.getLast, evalO, mapO, Dn.get, putE, keepE, TV.one, TV.isAgg, Dn.part, h1, h2, h3]
      · obtain rfl : b = false := by cases b; rfl; exact absurd (hb.2 rfl).2.1 h2
        simp [d57, c57, zipE, go_nil, go_last, go_past, go_pastR, go_blkN, go_blkR, go_blkE, go_skip, go_exit, go_ret, go_scope, go_seq, go_reg, go_regd, go_opdN, go_opd, go_opdG, grdd_b, grdd_u, stpd_some, find_some, go_block, go_cond, cnd_b, go_opsN, go_ops, go_opsG, grd_b, grd_u, stp_some, fin_some, up_some, cont_some, k_call, k_mv, k_pick, k_bin, k_eqB, k_eqA, k_not, k_neg, k_conv, k_alloc, k_boxA, k_boxI, k_boxB, k_boxN, k_boxBs, k_ldR, k_ldA, k_ldI, k_ldB, k_stA, k_stI, k_stB, ldC_some, stC_some, k_mkfn, k_slc, k_slcA, k_ixA, k_ixBs, k_ixSl, k_fadr, k_fld, k_ext, k_len, k_app, k_mn, k_mx, k_nilck, k_build, k_bsl1, k_bsl2, b_add, b_sub, b_mul, b_eql, b_neq, b_lss, b_leq, b_gtr, b_geq, Dn.setLast, Dn.getLast, evalO, mapO, Dn.get, putE, keepE, TV.one, TV.isAgg, Dn.part, h1, h2]
    · obtain rfl : b = false := by cases b; rfl; exact absurd (hb.2 rfl).1 h1
      simp [d57, c57, zipE, go_nil, go_last, go_past, go_pastR, go_blkN, go_blkR, go_blkE, go_skip, go_exit, go_ret, go_scope, go_seq, go_reg, go_regd, go_opdN, go_opd, go_opdG, grdd_b, grdd_u, stpd_some, find_some, go_block, go_cond, cnd_b, go_opsN, go_ops, go_opsG, grd_b, grd_u, stp_some, fin_some, up_some, cont_some, k_call, k_mv, k_pick, k_bin, k_eqB, k_eqA, k_not, k_neg, k_conv, k_alloc, k_boxA, k_boxI, k_boxB, k_boxN, k_boxBs, k_ldR, k_ldA, k_ldI, k_ldB, k_stA, k_stI, k_stB, ldC_some, stC_some, k_mkfn, k_slc, k_slcA, k_ixA, k_ixBs, k_ixSl, k_fadr, k_fld, k_ext, k_len, k_app, k_mn, k_mx, k_nilck, k_build, k_bsl1, k_bsl2, b_add, b_sub, b_mul, b_eql, b_neq, b_lss, b_leq, b_gtr, b_geq, Dn.setLast, Dn.getLast, evalO, mapO, Dn.get, putE, keepE, TV.one, TV.isAgg, Dn.part, h1]
  exact ⟨fun h => run true ⟨fun _ => rfl, fun _ => h⟩, fun h => run false ⟨fun h' => absurd h' h, fun e => by cases e⟩⟩

theorem fn58_bad {pg : Pg} (hF : Free pg) {x y : Int} (hb : ¬ OkN x y) : PFn pg 58 [.i .i64 x, .i .i64 y] (.i .i64 1) := by
  have h := bad59 (pg := pg) hF hb .nilsl []
  refine .inr ⟨hF.S _ _ (by decide), .i .i64 1, [], body_of (x := .ret) (e := [(4, .i .i64 1)]) (d := d58) (by rw [hF.F]; rfl) rfl ?_ (.inl rfl) rfl, sn_i _ _ _ _⟩
  simp [d58, c58, zipE, go_nil, go_last, go_past, go_pastR, go_blkN, go_blkR, go_blkE, go_skip, go_exit, go_ret, go_scope, go_seq, go_reg, go_regd, go_opdN, go_opd, go_opdG, grdd_b, grdd_u, stpd_some, find_some, go_block, go_cond, cnd_b, go_opsN, go_ops, go_opsG, grd_b, grd_u, stp_some, fin_some, up_some, cont_some, k_call, k_mv, k_pick, k_bin, k_eqB, k_eqA, k_not, k_neg, k_conv, k_alloc, k_boxA, k_boxI, k_boxB, k_boxN, k_boxBs, k_ldR, k_ldA, k_ldI, k_ldB, k_stA, k_stI, k_stB, ldC_some, stC_some, k_mkfn, k_slc, k_slcA, k_ixA, k_ixBs, k_ixSl, k_fadr, k_fld, k_ext, k_len, k_app, k_mn, k_mx, k_nilck, k_build, k_bsl1, k_bsl2, b_add, b_sub, b_mul, b_eql, b_neq, b_lss, b_leq, b_gtr, b_geq, Dn.setLast, Dn.getLast, evalO, mapO, Dn.get, putE, keepE, TV.one, TV.isAgg, Dn.part, sh_fn, h]
theorem fn58_ok {pg : Pg} (hF : Free pg) {r c : Nat} (h : Brd r c) : PFn pg 58 [.i .i64 (r : Int), .i .i64 (c : Int)] (.i .i64 0) := by
  obtain ⟨H1, h1, _⟩ := body59n (pg := pg) hF h []
  refine .inr ⟨hF.S _ _ (by decide), .i .i64 0, H1, body_of (x := .ret) (e := [(4, .i .i64 0)]) (d := d58) (by rw [hF.F]; rfl) rfl ?_ (.inl rfl) rfl, sn_i _ _ _ _⟩
  simp [d58, c58, zipE, go_nil, go_last, go_past, go_pastR, go_blkN, go_blkR, go_blkE, go_skip, go_exit, go_ret, go_scope, go_seq, go_reg, go_regd, go_opdN, go_opd, go_opdG, grdd_b, grdd_u, stpd_some, find_some, go_block, go_cond, cnd_b, go_opsN, go_ops, go_opsG, grd_b, grd_u, stp_some, fin_some, up_some, cont_some, k_call, k_mv, k_pick, k_bin, k_eqB, k_eqA, k_not, k_neg, k_conv, k_alloc, k_boxA, k_boxI, k_boxB, k_boxN, k_boxBs, k_ldR, k_ldA, k_ldI, k_ldB, k_stA, k_stI, k_stB, ldC_some, stC_some, k_mkfn, k_slc, k_slcA, k_ixA, k_ixBs, k_ixSl, k_fadr, k_fld, k_ext, k_len, k_app, k_mn, k_mx, k_nilck, k_build, k_bsl1, k_bsl2, b_add, b_sub, b_mul, b_eql, b_neq, b_lss, b_leq, b_gtr, b_geq, Dn.setLast, Dn.getLast, evalO, mapO, Dn.get, putE, keepE, TV.one, TV.isAgg, Dn.part, sh_fn, h1]
theorem fn51_bad {pg : Pg} (hF : Free pg) {x y : Int} (hb : ¬ OkN x y) {A : TV} : PFn pg 51 [.i .i64 x, .i .i64 y, A] (.tup [.b false, .i .i64 1]) := by
  have h := bad59 (pg := pg) hF hb .nilsl []
  refine .of2 (x := .ret) (e := [(6, .b false), (7, .i .i64 1)]) (H' := []) (hF.S _ _ (by decide)) (d := d51) (by rw [hF.F]; rfl) rfl ?_ (.inl rfl) rfl (by simp) (by simp [sn_i, sn_b, sn_nil, sn8_i, sn8_b, sn8_nil, sn7_i, sn7_b, sn_sl, sn8_sl, slB_some, sn_tup, sn_agg, sn8_agg, mapO, elems])
  simp (disch := omega) [d51, c51, zipE, go_nil, go_last, go_past, go_pastR, go_blkN, go_blkR, go_blkE, go_skip, go_exit, go_ret, go_scope, go_seq, go_reg, go_regd, go_opdN, go_opd, go_opdG, grdd_b, grdd_u, stpd_some, find_some, go_block, go_cond, cnd_b, go_opsN, go_ops, go_opsG, grd_b, grd_u, stp_some, fin_some, up_some, cont_some, k_call, k_mv, k_pick, k_bin, k_eqB, k_eqA, k_not, k_neg, k_conv, k_alloc, k_boxA, k_boxI, k_boxB, k_boxN, k_boxBs, k_ldR, k_ldA, k_ldI, k_ldB, k_stA, k_stI, k_stB, ldC_some, stC_some, k_mkfn, k_slc, k_slcA, k_ixA, k_ixBs, k_ixSl, k_fadr, k_fld, k_ext, k_len, k_app, k_mn, k_mx, k_nilck, k_build, k_bsl1, k_bsl2, b_add, b_sub, b_mul, b_eql, b_neq, b_lss, b_leq, b_gtr, b_geq, Dn.setLast, Dn.getLast, evalO, mapO, Dn.get, putE, keepE_nil, keepE_cons, kp_some, kp_none, TV.one, TV.isAgg, Dn.part, k_boxR, negb, at0, at1, at2, at3, at4, dT, dF, wrapR_i64, Option.bind_some, Option.map_some, sh_fn, h]
theorem fn19_bad {pg : Pg} (hF : Free pg) {x y : Int} (hb : ¬ OkN x y) : PFn pg 19 [.i .i64 x, .i .i64 y] (.tup [.nilsl, .b false, .i .i64 1]) := by
  have h := bad59 (pg := pg) hF hb .nilsl []
  refine .of2 (x := .ret) (e := [(4, .nilsl), (5, .b false), (6, .i .i64 1)]) (H' := []) (hF.S _ _ (by decide)) (d := d19) (by rw [hF.F]; rfl) rfl ?_ (.inl rfl) rfl (by simp) (by simp [sn_i, sn_b, sn_nil, sn8_i, sn8_b, sn8_nil, sn7_i, sn7_b, sn_sl, sn8_sl, slB_some, sn_tup, sn_agg, sn8_agg, mapO, elems])
  simp (disch := omega) [d19, c19, zipE, go_nil, go_last, go_past, go_pastR, go_blkN, go_blkR, go_blkE, go_skip, go_exit, go_ret, go_scope, go_seq, go_reg, go_regd, go_opdN, go_opd, go_opdG, grdd_b, grdd_u, stpd_some, find_some, go_block, go_cond, cnd_b, go_opsN, go_ops, go_opsG, grd_b, grd_u, stp_some, fin_some, up_some, cont_some, k_call, k_mv, k_pick, k_bin, k_eqB, k_eqA, k_not, k_neg, k_conv, k_alloc, k_boxA, k_boxI, k_boxB, k_boxN, k_boxBs, k_ldR, k_ldA, k_ldI, k_ldB, k_stA, k_stI, k_stB, ldC_some, stC_some, k_mkfn, k_slc, k_slcA, k_ixA, k_ixBs, k_ixSl, k_fadr, k_fld, k_ext, k_len, k_app, k_mn, k_mx, k_nilck, k_build, k_bsl1, k_bsl2, b_add, b_sub, b_mul, b_eql, b_neq, b_lss, b_leq, b_gtr, b_geq, Dn.setLast, Dn.getLast, evalO, mapO, Dn.get, putE, keepE_nil, keepE_cons, kp_some, kp_none, TV.one, TV.isAgg, Dn.part, k_boxR, negb, at0, at1, at2, at3, at4, dT, dF, wrapR_i64, Option.bind_some, Option.map_some, sh_fn, h]
theorem fn20_bad {pg : Pg} (hF : Free pg) {x y : Int} (hb : ¬ OkN x y) : PFn pg 20 [.i .i64 x, .i .i64 y] (.tup [.nilsl, .b false, .i .i64 1]) := by
  have h := bad59 (pg := pg) hF hb .nilsl []
  refine .of2 (x := .ret) (e := [(4, .nilsl), (5, .b false), (6, .i .i64 1)]) (H' := []) (hF.S _ _ (by decide)) (d := d20) (by rw [hF.F]; rfl) rfl ?_ (.inl rfl) rfl (by simp) (by simp [sn_i, sn_b, sn_nil, sn8_i, sn8_b, sn8_nil, sn7_i, sn7_b, sn_sl, sn8_sl, slB_some, sn_tup, sn_agg, sn8_agg, mapO, elems])
  simp (disch := omega) [d20, c20, zipE, go_nil, go_last, go_past, go_pastR, go_blkN, go_blkR, go_blkE, go_skip, go_exit, go_ret, go_scope, go_seq, go_reg, go_regd, go_opdN, go_opd, go_opdG, grdd_b, grdd_u, stpd_some, find_some, go_block, go_cond, cnd_b, go_opsN, go_ops, go_opsG, grd_b, grd_u, stp_some, fin_some, up_some, cont_some, k_call, k_mv, k_pick, k_bin, k_eqB, k_eqA, k_not, k_neg, k_conv, k_alloc, k_boxA, k_boxI, k_boxB, k_boxN, k_boxBs, k_ldR, k_ldA, k_ldI, k_ldB, k_stA, k_stI, k_stB, ldC_some, stC_some, k_mkfn, k_slc, k_slcA, k_ixA, k_ixBs, k_ixSl, k_fadr, k_fld, k_ext, k_len, k_app, k_mn, k_mx, k_nilck, k_build, k_bsl1, k_bsl2, b_add, b_sub, b_mul, b_eql, b_neq, b_lss, b_leq, b_gtr, b_geq, Dn.setLast, Dn.getLast, evalO, mapO, Dn.get, putE, keepE_nil, keepE_cons, kp_some, kp_none, TV.one, TV.isAgg, Dn.part, k_boxR, negb, at0, at1, at2, at3, at4, dT, dF, wrapR_i64, Option.bind_some, Option.map_some, sh_fn, h]
theorem fn35_bad {pg : Pg} (hF : Free pg) {x y : Int} (hb : ¬ OkN x y) : PFn pg 35 [.i .i64 x, .i .i64 y] (.tup [.i .i64 0, .b false, .i .i64 1]) := by
  have h := bad59 (pg := pg) hF hb .nilsl []
  refine .of2 (x := .ret) (e := [(4, .i .i64 0), (5, .b false), (6, .i .i64 1)]) (H' := []) (hF.S _ _ (by decide)) (d := d35) (by rw [hF.F]; rfl) rfl ?_ (.inl rfl) rfl (by simp) (by simp [sn_i, sn_b, sn_nil, sn8_i, sn8_b, sn8_nil, sn7_i, sn7_b, sn_sl, sn8_sl, slB_some, sn_tup, sn_agg, sn8_agg, mapO, elems])
  simp (disch := omega) [d35, c35, zipE, go_nil, go_last, go_past, go_pastR, go_blkN, go_blkR, go_blkE, go_skip, go_exit, go_ret, go_scope, go_seq, go_reg, go_regd, go_opdN, go_opd, go_opdG, grdd_b, grdd_u, stpd_some, find_some, go_block, go_cond, cnd_b, go_opsN, go_ops, go_opsG, grd_b, grd_u, stp_some, fin_some, up_some, cont_some, k_call, k_mv, k_pick, k_bin, k_eqB, k_eqA, k_not, k_neg, k_conv, k_alloc, k_boxA, k_boxI, k_boxB, k_boxN, k_boxBs, k_ldR, k_ldA, k_ldI, k_ldB, k_stA, k_stI, k_stB, ldC_some, stC_some, k_mkfn, k_slc, k_slcA, k_ixA, k_ixBs, k_ixSl, k_fadr, k_fld, k_ext, k_len, k_app, k_mn, k_mx, k_nilck, k_build, k_bsl1, k_bsl2, b_add, b_sub, b_mul, b_eql, b_neq, b_lss, b_leq, b_gtr, b_geq, Dn.setLast, Dn.getLast, evalO, mapO, Dn.get, putE, keepE_nil, keepE_cons, kp_some, kp_none, TV.one, TV.isAgg, Dn.part, k_boxR, negb, at0, at1, at2, at3, at4, dT, dF, wrapR_i64, Option.bind_some, Option.map_some, sh_fn, h]
theorem fn52_bad {pg : Pg} (hF : Free pg) {x y : Int} (hb : ¬ OkN x y) {A : TV} : PFn pg 52 [.i .i64 x, .i .i64 y, A] (.tup [.nilsl, .i .i64 1]) := by
  have h := bad59 (pg := pg) hF hb .nilsl []
  refine .of2 (x := .ret) (e := [(6, .nilsl), (7, .i .i64 1)]) (H' := []) (hF.S _ _ (by decide)) (d := d52) (by rw [hF.F]; rfl) rfl ?_ (.inl rfl) rfl (by simp) (by simp [sn_i, sn_b, sn_nil, sn8_i, sn8_b, sn8_nil, sn7_i, sn7_b, sn_sl, sn8_sl, slB_some, sn_tup, sn_agg, sn8_agg, mapO, elems])
  simp (disch := omega) [d52, c52, zipE, go_nil, go_last, go_past, go_pastR, go_blkN, go_blkR, go_blkE, go_skip, go_exit, go_ret, go_scope, go_seq, go_reg, go_regd, go_opdN, go_opd, go_opdG, grdd_b, grdd_u, stpd_some, find_some, go_block, go_cond, cnd_b, go_opsN, go_ops, go_opsG, grd_b, grd_u, stp_some, fin_some, up_some, cont_some, k_call, k_mv, k_pick, k_bin, k_eqB, k_eqA, k_not, k_neg, k_conv, k_alloc, k_boxA, k_boxI, k_boxB, k_boxN, k_boxBs, k_ldR, k_ldA, k_ldI, k_ldB, k_stA, k_stI, k_stB, ldC_some, stC_some, k_mkfn, k_slc, k_slcA, k_ixA, k_ixBs, k_ixSl, k_fadr, k_fld, k_ext, k_len, k_app, k_mn, k_mx, k_nilck, k_build, k_bsl1, k_bsl2, b_add, b_sub, b_mul, b_eql, b_neq, b_lss, b_leq, b_gtr, b_geq, Dn.setLast, Dn.getLast, evalO, mapO, Dn.get, putE, keepE_nil, keepE_cons, kp_some, kp_none, TV.one, TV.isAgg, Dn.part, k_boxR, negb, at0, at1, at2, at3, at4, dT, dF, wrapR_i64, Option.bind_some, Option.map_some, sh_fn, h]
theorem fn45_bad {pg : Pg} (hF : Free pg) {x y : Int} (hb : ¬ OkN x y) : PFn pg 45 [.i .i64 x, .i .i64 y] (.tup [.i .i64 0, .i .i64 0, .i .i64 1]) := by
  have h := bad59 (pg := pg) hF hb .nilsl []
  refine .of2 (x := .ret) (e := [(4, .i .i64 0), (5, .i .i64 0), (6, .i .i64 1)]) (H' := []) (hF.S _ _ (by decide)) (d := d45) (by rw [hF.F]; rfl) rfl ?_ (.inl rfl) rfl (by simp) (by simp [sn_i, sn_b, sn_nil, sn8_i, sn8_b, sn8_nil, sn7_i, sn7_b, sn_sl, sn8_sl, slB_some, sn_tup, sn_agg, sn8_agg, mapO, elems])
  simp (disch := omega) [d45, c45, zipE, go_nil, go_last, go_past, go_pastR, go_blkN, go_blkR, go_blkE, go_skip, go_exit, go_ret, go_scope, go_seq, go_reg, go_regd, go_opdN, go_opd, go_opdG, grdd_b, grdd_u, stpd_some, find_some, go_block, go_cond, cnd_b, go_opsN, go_ops, go_opsG, grd_b, grd_u, stp_some, fin_some, up_some, cont_some, k_call, k_mv, k_pick, k_bin, k_eqB, k_eqA, k_not, k_neg, k_conv, k_alloc, k_boxA, k_boxI, k_boxB, k_boxN, k_boxBs, k_ldR, k_ldA, k_ldI, k_ldB, k_stA, k_stI, k_stB, ldC_some, stC_some, k_mkfn, k_slc, k_slcA, k_ixA, k_ixBs, k_ixSl, k_fadr, k_fld, k_ext, k_len, k_app, k_mn, k_mx, k_nilck, k_build, k_bsl1, k_bsl2, b_add, b_sub, b_mul, b_eql, b_neq, b_lss, b_leq, b_gtr, b_geq, Dn.setLast, Dn.getLast, evalO, mapO, Dn.get, putE, keepE_nil, keepE_cons, kp_some, kp_none, TV.one, TV.isAgg, Dn.part, k_boxR, negb, at0, at1, at2, at3, at4, dT, dF, wrapR_i64, Option.bind_some, Option.map_some, sh_fn, h]
theorem fn46_bad {pg : Pg} (hF : Free pg) {x y : Int} (hb : ¬ OkN x y) : PFn pg 46 [.i .i64 x, .i .i64 y] (.tup [.nilsl, .i .i64 1]) := by
  have h := bad59 (pg := pg) hF hb .nilsl []
  refine .of2 (x := .ret) (e := [(4, .nilsl), (5, .i .i64 1)]) (H' := []) (hF.S _ _ (by decide)) (d := d46) (by rw [hF.F]; rfl) rfl ?_ (.inl rfl) rfl (by simp) (by simp [sn_i, sn_b, sn_nil, sn8_i, sn8_b, sn8_nil, sn7_i, sn7_b, sn_sl, sn8_sl, slB_some, sn_tup, sn_agg, sn8_agg, mapO, elems])
  simp (disch := omega) [d46, c46, zipE, go_nil, go_last, go_past, go_pastR, go_blkN, go_blkR, go_blkE, go_skip, go_exit, go_ret, go_scope, go_seq, go_reg, go_regd, go_opdN, go_opd, go_opdG, grdd_b, grdd_u, stpd_some, find_some, go_block, go_cond, cnd_b, go_opsN, go_ops, go_opsG, grd_b, grd_u, stp_some, fin_some, up_some, cont_some, k_call, k_mv, k_pick, k_bin, k_eqB, k_eqA, k_not, k_neg, k_conv, k_alloc, k_boxA, k_boxI, k_boxB, k_boxN, k_boxBs, k_ldR, k_ldA, k_ldI, k_ldB, k_stA, k_stI, k_stB, ldC_some, stC_some, k_mkfn, k_slc, k_slcA, k_ixA, k_ixBs, k_ixSl, k_fadr, k_fld, k_ext, k_len, k_app, k_mn, k_mx, k_nilck, k_build, k_bsl1, k_bsl2, b_add, b_sub, b_mul, b_eql, b_neq, b_lss, b_leq, b_gtr, b_geq, Dn.setLast, Dn.getLast, evalO, mapO, Dn.get, putE, keepE_nil, keepE_cons, kp_some, kp_none, TV.one, TV.isAgg, Dn.part, k_boxR, negb, at0, at1, at2, at3, at4, dT, dF, wrapR_i64, Option.bind_some, Option.map_some, sh_fn, h]
theorem fn54_bad {pg : Pg} (hF : Free pg) {x y : Int} (hb : ¬ OkN x y) : PFn pg 54 [.i .i64 x, .i .i64 y] (.tup [.i .i64 0, .i .i64 0, .i .i64 1]) := by
  have h := bad59 (pg := pg) hF hb .nilsl []
  have al : dkc pg (den pg) (.alloc [.nilp] false) [] [] = some (.ref 0 0, [.cells [.nilp] false]) := rfl
  have st : dkc pg (den pg) (.st 1) [.ref 0 0, .nilp] [.cells [.nilp] false] = some (.undef, [.cells [.nilp] false]) := st_box (id := 0) rfl rfl
  obtain ⟨H1, hH1⟩ : ∃ H1 : Heap, H1 = [.cells [.nilp] false] := ⟨_, rfl⟩
  rw [← hH1] at al st
  refine .of2 (x := .ret) (e := [(4, .i .i64 0), (5, .i .i64 0), (6, .i .i64 1)]) (H' := H1) (hF.S _ _ (by decide)) (d := d54) (by rw [hF.F]; rfl) rfl ?_ (.inl rfl) rfl (by simp) (by simp [sn_i, sn_b, sn_nil, sn8_i, sn8_b, sn8_nil, sn7_i, sn7_b, sn_sl, sn8_sl, slB_some, sn_tup, sn_agg, sn8_agg, mapO, elems])
  simp (disch := omega) [d54, c54, zipE, go_nil, go_last, go_past, go_pastR, go_blkN, go_blkR, go_blkE, go_skip, go_exit, go_ret, go_scope, go_seq, go_reg, go_regd, go_opdN, go_opd, go_opdG, grdd_b, grdd_u, stpd_some, find_some, go_block, go_cond, cnd_b, go_opsN, go_ops, go_opsG, grd_b, grd_u, stp_some, fin_some, up_some, cont_some, k_call, k_mv, k_pick, k_bin, k_eqB, k_eqA, k_not, k_neg, k_conv, k_alloc, k_boxA, k_boxI, k_boxB, k_boxN, k_boxBs, k_ldR, k_ldA, k_ldI, k_ldB, k_stA, k_stI, k_stB, ldC_some, stC_some, k_mkfn, k_slc, k_slcA, k_ixA, k_ixBs, k_ixSl, k_fadr, k_fld, k_ext, k_len, k_app, k_mn, k_mx, k_nilck, k_build, k_bsl1, k_bsl2, b_add, b_sub, b_mul, b_eql, b_neq, b_lss, b_leq, b_gtr, b_geq, Dn.setLast, Dn.getLast, evalO, mapO, Dn.get, putE, keepE_nil, keepE_cons, kp_some, kp_none, TV.one, TV.isAgg, Dn.part, k_boxR, negb, at0, at1, at2, at3, at4, dT, dF, wrapR_i64, Option.bind_some, Option.map_some, sh_fn, h, al, st]
theorem fn28_bad {pg : Pg} (hF : Free pg) {x y : Int} {a : Int} (hb : Bad pg x y [a]) : PFn pg 28 [.i .i64 x, .i .i64 y, .i .i64 a] (.tup [.nilsl, .i .i64 1]) := by
  obtain ⟨HB, hHB⟩ : ∃ HB : Heap, HB = [] := ⟨_, rfl⟩
  obtain ⟨H', h⟩ := hb (.sl HB.length 0 1 false 1 (some 1)) (HB ++ [.cells [.i .i64 a] false]) (one_view HB a)
  have kbs : dkc pg (den pg) (.bsl false [.i .i64 0] false 1 [0]) [.i .i64 a] HB = some (.sl HB.length 0 1 false 1 (some 1), HB ++ [.cells [.i .i64 a] false]) := rfl
  obtain ⟨SS, hSS⟩ : ∃ SS, SS = TV.sl HB.length 0 1 false 1 (some 1) := ⟨_, rfl⟩
  obtain ⟨HC, hHC⟩ : ∃ HC, HC = HB ++ [.cells [.i .i64 a] false] := ⟨_, rfl⟩
  rw [← hSS, ← hHC] at kbs h
  rw [hHB] at kbs
  refine .of2 (x := .ret) (e := [(6, .nilsl), (7, .i .i64 1)]) (H' := H') (hF.S _ _ (by decide)) (d := d28) (by rw [hF.F]; rfl) rfl ?_ (.inl rfl) rfl (by simp) (by simp [sn_i, sn_b, sn_nil, sn8_i, sn8_b, sn8_nil, sn7_i, sn7_b, sn_sl, sn8_sl, slB_some, sn_tup, sn_agg, sn8_agg, mapO, elems])
  simp (disch := omega) [d28, c28, zipE, go_nil, go_last, go_past, go_pastR, go_blkN, go_blkR, go_blkE, go_skip, go_exit, go_ret, go_scope, go_seq, go_reg, go_regd, go_opdN, go_opd, go_opdG, grdd_b, grdd_u, stpd_some, find_some, go_block, go_cond, cnd_b, go_opsN, go_ops, go_opsG, grd_b, grd_u, stp_some, fin_some, up_some, cont_some, k_call, k_mv, k_pick, k_bin, k_eqB, k_eqA, k_not, k_neg, k_conv, k_alloc, k_boxA, k_boxI, k_boxB, k_boxN, k_boxBs, k_ldR, k_ldA, k_ldI, k_ldB, k_stA, k_stI, k_stB, ldC_some, stC_some, k_mkfn, k_slc, k_slcA, k_ixA, k_ixBs, k_ixSl, k_fadr, k_fld, k_ext, k_len, k_app, k_mn, k_mx, k_nilck, k_build, k_bsl1, k_bsl2, b_add, b_sub, b_mul, b_eql, b_neq, b_lss, b_leq, b_gtr, b_geq, Dn.setLast, Dn.getLast, evalO, mapO, Dn.get, putE, keepE_nil, keepE_cons, kp_some, kp_none, TV.one, TV.isAgg, Dn.part, k_boxR, negb, at0, at1, at2, at3, at4, dT, dF, wrapR_i64, Option.bind_some, Option.map_some, kbs, sh_fn, h]
theorem fn29_bad {pg : Pg} (hF : Free pg) {x y : Int} {a b : Int} (hb : Bad pg x y [a, b]) : PFn pg 29 [.i .i64 x, .i .i64 y, .i .i64 a, .i .i64 b] (.tup [.i .i64 0, .b false, .i .i64 1]) := by
  obtain ⟨HB, hHB⟩ : ∃ HB : Heap, HB = [] := ⟨_, rfl⟩
  obtain ⟨H', h⟩ := hb (.sl HB.length 0 1 false 2 (some 2)) (HB ++ [.cells [.i .i64 a, .i .i64 b] false]) (two_v HB a b)
  have kbs : dkc pg (den pg) (.bsl false [.i .i64 0] false 2 [0, 1]) [.i .i64 a, .i .i64 b] HB = some (.sl HB.length 0 1 false 2 (some 2), HB ++ [.cells [.i .i64 a, .i .i64 b] false]) := rfl
  obtain ⟨SS, hSS⟩ : ∃ SS, SS = TV.sl HB.length 0 1 false 2 (some 2) := ⟨_, rfl⟩
  obtain ⟨HC, hHC⟩ : ∃ HC, HC = HB ++ [.cells [.i .i64 a, .i .i64 b] false] := ⟨_, rfl⟩
  rw [← hSS, ← hHC] at kbs h
  rw [hHB] at kbs
  refine .of2 (x := .ret) (e := [(8, .i .i64 0), (9, .b false), (10, .i .i64 1)]) (H' := H') (hF.S _ _ (by decide)) (d := d29) (by rw [hF.F]; rfl) rfl ?_ (.inl rfl) rfl (by simp) (by simp [sn_i, sn_b, sn_nil, sn8_i, sn8_b, sn8_nil, sn7_i, sn7_b, sn_sl, sn8_sl, slB_some, sn_tup, sn_agg, sn8_agg, mapO, elems])
  simp (disch := omega) [d29, c29, zipE, go_nil, go_last, go_past, go_pastR, go_blkN, go_blkR, go_blkE, go_skip, go_exit, go_ret, go_scope, go_seq, go_reg, go_regd, go_opdN, go_opd, go_opdG, grdd_b, grdd_u, stpd_some, find_some, go_block, go_cond, cnd_b, go_opsN, go_ops, go_opsG, grd_b, grd_u, stp_some, fin_some, up_some, cont_some, k_call, k_mv, k_pick, k_bin, k_eqB, k_eqA, k_not, k_neg, k_conv, k_alloc, k_boxA, k_boxI, k_boxB, k_boxN, k_boxBs, k_ldR, k_ldA, k_ldI, k_ldB, k_stA, k_stI, k_stB, ldC_some, stC_some, k_mkfn, k_slc, k_slcA, k_ixA, k_ixBs, k_ixSl, k_fadr, k_fld, k_ext, k_len, k_app, k_mn, k_mx, k_nilck, k_build, k_bsl1, k_bsl2, b_add, b_sub, b_mul, b_eql, b_neq, b_lss, b_leq, b_gtr, b_geq, Dn.setLast, Dn.getLast, evalO, mapO, Dn.get, putE, keepE_nil, keepE_cons, kp_some, kp_none, TV.one, TV.isAgg, Dn.part, k_boxR, negb, at0, at1, at2, at3, at4, dT, dF, wrapR_i64, Option.bind_some, Option.map_some, kbs, sh_fn, h]
theorem fn30_bad {pg : Pg} (hF : Free pg) {x y : Int} {a b : Int} (hb : Bad pg x y [a, b]) : PFn pg 30 [.i .i64 x, .i .i64 y, .i .i64 a, .i .i64 b] (.tup [.nilsl, .b false, .i .i64 1]) := by
  obtain ⟨HB, hHB⟩ : ∃ HB : Heap, HB = [] := ⟨_, rfl⟩
  obtain ⟨H', h⟩ := hb (.sl HB.length 0 1 false 2 (some 2)) (HB ++ [.cells [.i .i64 a, .i .i64 b] false]) (two_v HB a b)
  have kbs : dkc pg (den pg) (.bsl false [.i .i64 0] false 2 [0, 1]) [.i .i64 a, .i .i64 b] HB = some (.sl HB.length 0 1 false 2 (some 2), HB ++ [.cells [.i .i64 a, .i .i64 b] false]) := rfl
  obtain ⟨SS, hSS⟩ : ∃ SS, SS = TV.sl HB.length 0 1 false 2 (some 2) := ⟨_, rfl⟩
  obtain ⟨HC, hHC⟩ : ∃ HC, HC = HB ++ [.cells [.i .i64 a, .i .i64 b] false] := ⟨_, rfl⟩
  rw [← hSS, ← hHC] at kbs h
  rw [hHB] at kbs
  refine .of2 (x := .ret) (e := [(8, .nilsl), (9, .b false), (10, .i .i64 1)]) (H' := H') (hF.S _ _ (by decide)) (d := d30) (by rw [hF.F]; rfl) rfl ?_ (.inl rfl) rfl (by simp) (by simp [sn_i, sn_b, sn_nil, sn8_i, sn8_b, sn8_nil, sn7_i, sn7_b, sn_sl, sn8_sl, slB_some, sn_tup, sn_agg, sn8_agg, mapO, elems])
  simp (disch := omega) [d30, c30, zipE, go_nil, go_last, go_past, go_pastR, go_blkN, go_blkR, go_blkE, go_skip, go_exit, go_ret, go_scope, go_seq, go_reg, go_regd, go_opdN, go_opd, go_opdG, grdd_b, grdd_u, stpd_some, find_some, go_block, go_cond, cnd_b, go_opsN, go_ops, go_opsG, grd_b, grd_u, stp_some, fin_some, up_some, cont_some, k_call, k_mv, k_pick, k_bin, k_eqB, k_eqA, k_not, k_neg, k_conv, k_alloc, k_boxA, k_boxI, k_boxB, k_boxN, k_boxBs, k_ldR, k_ldA, k_ldI, k_ldB, k_stA, k_stI, k_stB, ldC_some, stC_some, k_mkfn, k_slc, k_slcA, k_ixA, k_ixBs, k_ixSl, k_fadr, k_fld, k_ext, k_len, k_app, k_mn, k_mx, k_nilck, k_build, k_bsl1, k_bsl2, b_add, b_sub, b_mul, b_eql, b_neq, b_lss, b_leq, b_gtr, b_geq, Dn.setLast, Dn.getLast, evalO, mapO, Dn.get, putE, keepE_nil, keepE_cons, kp_some, kp_none, TV.one, TV.isAgg, Dn.part, k_boxR, negb, at0, at1, at2, at3, at4, dT, dF, wrapR_i64, Option.bind_some, Option.map_some, kbs, sh_fn, h]
theorem fn26_bad {pg : Pg} (hF : Free pg) {x y : Int} {a b k : Int} (hb : Bad pg x y [a, b]) : PFn pg 26 [.i .i64 x, .i .i64 y, .i .i64 a, .i .i64 b, .i .i64 k] (.tup [.i .i64 0, .i .i64 1]) := by
  obtain ⟨HB, hHB⟩ : ∃ HB : Heap, HB = [] := ⟨_, rfl⟩
  obtain ⟨H', h⟩ := hb (.sl HB.length 0 1 false 2 (some 2)) (HB ++ [.cells [.i .i64 a, .i .i64 b] false]) (two_v HB a b)
  have kbs : dkc pg (den pg) (.bsl false [.i .i64 0] false 2 [0, 1]) [.i .i64 a, .i .i64 b] HB = some (.sl HB.length 0 1 false 2 (some 2), HB ++ [.cells [.i .i64 a, .i .i64 b] false]) := rfl
  obtain ⟨SS, hSS⟩ : ∃ SS, SS = TV.sl HB.length 0 1 false 2 (some 2) := ⟨_, rfl⟩
  obtain ⟨HC, hHC⟩ : ∃ HC, HC = HB ++ [.cells [.i .i64 a, .i .i64 b] false] := ⟨_, rfl⟩
  rw [← hSS, ← hHC] at kbs h
  rw [hHB] at kbs
  refine .of2 (x := .ret) (e := [(10, .i .i64 0), (11, .i .i64 1)]) (H' := H') (hF.S _ _ (by decide)) (d := d26) (by rw [hF.F]; rfl) rfl ?_ (.inl rfl) rfl (by simp) (by simp [sn_i, sn_b, sn_nil, sn8_i, sn8_b, sn8_nil, sn7_i, sn7_b, sn_sl, sn8_sl, slB_some, sn_tup, sn_agg, sn8_agg, mapO, elems])
  simp (disch := omega) [d26, c26, zipE, go_nil, go_last, go_past, go_pastR, go_blkN, go_blkR, go_blkE, go_skip, go_exit, go_ret, go_scope, go_seq, go_reg, go_regd, go_opdN, go_opd, go_opdG, grdd_b, grdd_u, stpd_some, find_some, go_block, go_cond, cnd_b, go_opsN, go_ops, go_opsG, grd_b, grd_u, stp_some, fin_some, up_some, cont_some, k_call, k_mv, k_pick, k_bin, k_eqB, k_eqA, k_not, k_neg, k_conv, k_alloc, k_boxA, k_boxI, k_boxB, k_boxN, k_boxBs, k_ldR, k_ldA, k_ldI, k_ldB, k_stA, k_stI, k_stB, ldC_some, stC_some, k_mkfn, k_slc, k_slcA, k_ixA, k_ixBs, k_ixSl, k_fadr, k_fld, k_ext, k_len, k_app, k_mn, k_mx, k_nilck, k_build, k_bsl1, k_bsl2, b_add, b_sub, b_mul, b_eql, b_neq, b_lss, b_leq, b_gtr, b_geq, Dn.setLast, Dn.getLast, evalO, mapO, Dn.get, putE, keepE_nil, keepE_cons, kp_some, kp_none, TV.one, TV.isAgg, Dn.part, k_boxR, negb, at0, at1, at2, at3, at4, dT, dF, wrapR_i64, Option.bind_some, Option.map_some, kbs, sh_fn, h]
theorem fn42_bad {pg : Pg} (hF : Free pg) {x y : Int} {a k : Int} (hb : Bad pg x y [a]) : PFn pg 42 [.i .i64 x, .i .i64 y, .i .i64 a, .i .i64 k] (.tup [.nilsl, .i .i64 1]) := by
  obtain ⟨HB, hHB⟩ : ∃ HB : Heap, HB = [.cells [.i .i64 k] false] := ⟨_, rfl⟩
  obtain ⟨H', h⟩ := hb (.sl HB.length 0 1 false 1 (some 1)) (HB ++ [.cells [.i .i64 a] false]) (one_view HB a)
  have kbs : dkc pg (den pg) (.bsl false [.i .i64 0] false 1 [0]) [.i .i64 a] HB = some (.sl HB.length 0 1 false 1 (some 1), HB ++ [.cells [.i .i64 a] false]) := rfl
  obtain ⟨SS, hSS⟩ : ∃ SS, SS = TV.sl HB.length 0 1 false 1 (some 1) := ⟨_, rfl⟩
  obtain ⟨HC, hHC⟩ : ∃ HC, HC = HB ++ [.cells [.i .i64 a] false] := ⟨_, rfl⟩
  rw [← hSS, ← hHC] at kbs h
  have fHB := hHB.symm
  refine .of2 (x := .ret) (e := [(8, .nilsl), (9, .i .i64 1)]) (H' := H') (hF.S _ _ (by decide)) (d := d42) (by rw [hF.F]; rfl) rfl ?_ (.inl rfl) rfl (by simp) (by simp [sn_i, sn_b, sn_nil, sn8_i, sn8_b, sn8_nil, sn7_i, sn7_b, sn_sl, sn8_sl, slB_some, sn_tup, sn_agg, sn8_agg, mapO, elems])
  simp (disch := omega) [d42, c42, zipE, go_nil, go_last, go_past, go_pastR, go_blkN, go_blkR, go_blkE, go_skip, go_exit, go_ret, go_scope, go_seq, go_reg, go_regd, go_opdN, go_opd, go_opdG, grdd_b, grdd_u, stpd_some, find_some, go_block, go_cond, cnd_b, go_opsN, go_ops, go_opsG, grd_b, grd_u, stp_some, fin_some, up_some, cont_some, k_call, k_mv, k_pick, k_bin, k_eqB, k_eqA, k_not, k_neg, k_conv, k_alloc, k_boxA, k_boxI, k_boxB, k_boxN, k_boxBs, k_ldR, k_ldA, k_ldI, k_ldB, k_stA, k_stI, k_stB, ldC_some, stC_some, k_mkfn, k_slc, k_slcA, k_ixA, k_ixBs, k_ixSl, k_fadr, k_fld, k_ext, k_len, k_app, k_mn, k_mx, k_nilck, k_build, k_bsl1, k_bsl2, b_add, b_sub, b_mul, b_eql, b_neq, b_lss, b_leq, b_gtr, b_geq, Dn.setLast, Dn.getLast, evalO, mapO, Dn.get, putE, keepE_nil, keepE_cons, kp_some, kp_none, TV.one, TV.isAgg, Dn.part, k_boxR, negb, at0, at1, at2, at3, at4, dT, dF, wrapR_i64, Option.bind_some, Option.map_some, fHB, kbs, sh_fn, h]

theorem body68_bad {pg : Pg} (hF : Free pg) {x y : Int} (hb : ¬ OkN x y) (s : Int) : ∃ H', bodyRun pg (den pg) 68 [.i .i64 x, .i .i64 y, .i .i64 s] [] = some (.tup [.nilp, .i .i64 1], H') := by
  have h := bad59 (pg := pg) hF hb .nilsl []
  refine ⟨[], body_ofs (x := .ret) (e := [(6, .nilp), (7, .i .i64 1)]) (vs := [.nilp, .i .i64 1]) (d := d68) (by rw [hF.F]; rfl) rfl ?_ (.inl rfl) rfl⟩
  simp (disch := omega) [d68, c68, zipE, go_nil, go_last, go_past, go_pastR, go_blkN, go_blkR, go_blkE, go_skip, go_exit, go_ret, go_scope, go_seq, go_reg, go_regd, go_opdN, go_opd, go_opdG, grdd_b, grdd_u, stpd_some, find_some, go_block, go_cond, cnd_b, go_opsN, go_ops, go_opsG, grd_b, grd_u, stp_some, fin_some, up_some, cont_some, k_call, k_mv, k_pick, k_bin, k_eqB, k_eqA, k_not, k_neg, k_conv, k_alloc, k_boxA, k_boxI, k_boxB, k_boxN, k_boxBs, k_ldR, k_ldA, k_ldI, k_ldB, k_stA, k_stI, k_stB, ldC_some, stC_some, k_mkfn, k_slc, k_slcA, k_ixA, k_ixBs, k_ixSl, k_fadr, k_fld, k_ext, k_len, k_app, k_mn, k_mx, k_nilck, k_build, k_bsl1, k_bsl2, b_add, b_sub, b_mul, b_eql, b_neq, b_lss, b_leq, b_gtr, b_geq, Dn.setLast, Dn.getLast, evalO, mapO, Dn.get, putE, keepE_nil, keepE_cons, kp_some, kp_none, TV.one, TV.isAgg, Dn.part, k_boxR, negb, at0, at1, at2, at3, at4, dT, dF, wrapR_i64, Option.bind_some, Option.map_some, sh_fn, h]
theorem body68_out {pg : Pg} (hF : Free pg) {r c : Nat} (h : Brd r c) {s : Int} (hs : s < 0 ∨ ((2 ^ (r * c) : Nat) : Int) ≤ s) : ∃ H', bodyRun pg (den pg) 68 [.i .i64 (r : Int), .i .i64 (c : Int), .i .i64 s] [] = some (.tup [.nilp, .i .i64 1], H') := by
  have hn := h.n36
  have h63 := lt63 h
  obtain ⟨H1, h1, h2, h3, h4⟩ := body59n (pg := pg) hF h []
  simp only [List.length_nil] at h1 h2
  have ln : dkc pg (den pg) (.ld 1 false) [.ref 0 2] H1 = some (.i .i64 ((r * c : Nat) : Int), H1) := by simp [dkc, dk, h2, part_n]
  have wn := wrap_u (m := r * c) (by omega)
  have shi := Dn.shl_i (k := .u64) (c := r * c) (by omega)
  refine ⟨H1, body_ofs (x := .ret) (e := [(6, .nilp), (7, .i .i64 1)]) (vs := [.nilp, .i .i64 1]) (d := d68) (by rw [hF.F]; rfl) rfl ?_ (.inl rfl) rfl⟩
  by_cases h0 : s < 0
  · simp (disch := omega) [d68, c68, zipE, go_nil, go_last, go_past, go_pastR, go_blkN, go_blkR, go_blkE, go_skip, go_exit, go_ret, go_scope, go_seq, go_reg, go_regd, go_opdN, go_opd, go_opdG, grdd_b, grdd_u, stpd_some, find_some, go_block, go_cond, cnd_b, go_opsN, go_ops, go_opsG, grd_b, grd_u, stp_some, fin_some, up_some, cont_some, k_call, k_mv, k_pick, k_bin, k_eqB, k_eqA, k_not, k_neg, k_conv, k_alloc, k_boxA, k_boxI, k_boxB, k_boxN, k_boxBs, k_ldR, k_ldA, k_ldI, k_ldB, k_stA, k_stI, k_stB, ldC_some, stC_some, k_mkfn, k_slc, k_slcA, k_ixA, k_ixBs, k_ixSl, k_fadr, k_fld, k_ext, k_len, k_app, k_mn, k_mx, k_nilck, k_build, k_bsl1, k_bsl2, b_add, b_sub, b_mul, b_eql, b_neq, b_lss, b_leq, b_gtr, b_geq, Dn.setLast, Dn.getLast, evalO, mapO, Dn.get, putE, keepE_nil, keepE_cons, kp_some, kp_none, TV.one, TV.isAgg, Dn.part, k_boxR, negb, at0, at1, at2, at3, at4, dT, dF, wrapR_i64, Option.bind_some, Option.map_some, sh_fn, h1, h0]
  · have hge : ((2 ^ (r * c) : Nat) : Int) ≤ s := by omega
    generalize ((2 ^ (r * c) : Nat) : Int) = P2 at *
    generalize ((r * c : Nat) : Int) = N at *
    simp (disch := omega) [d68, c68, zipE, go_nil, go_last, go_past, go_pastR, go_blkN, go_blkR, go_blkE, go_skip, go_exit, go_ret, go_scope, go_seq, go_reg, go_regd, go_opdN, go_opd, go_opdG, grdd_b, grdd_u, stpd_some, find_some, go_block, go_cond, cnd_b, go_opsN, go_ops, go_opsG, grd_b, grd_u, stp_some, fin_some, up_some, cont_some, k_call, k_mv, k_pick, k_bin, k_eqB, k_eqA, k_not, k_neg, k_conv, k_alloc, k_boxA, k_boxI, k_boxB, k_boxN, k_boxBs, k_ldR, k_ldA, k_ldI, k_ldB, k_stA, k_stI, k_stB, ldC_some, stC_some, k_mkfn, k_slc, k_slcA, k_ixA, k_ixBs, k_ixSl, k_fadr, k_fld, k_ext, k_len, k_app, k_mn, k_mx, k_nilck, k_build, k_bsl1, k_bsl2, b_add, b_sub, b_mul, b_eql, b_neq, b_lss, b_leq, b_gtr, b_geq, Dn.setLast, Dn.getLast, evalO, mapO, Dn.get, putE, keepE_nil, keepE_cons, kp_some, kp_none, TV.one, TV.isAgg, Dn.part, k_boxR, negb, at0, at1, at2, at3, at4, dT, dF, wrapR_i64, Option.bind_some, Option.map_some, k_fadr, sh_fn, h1, h0, ln, wn, shi, hge]
theorem fn38_bad {pg : Pg} (hF : Free pg) {x y s : Int} (h : ∃ H', bodyRun pg (den pg) 68 [.i .i64 x, .i .i64 y, .i .i64 s] [] = some (.tup [.nilp, .i .i64 1], H')) : PFn pg 38 [.i .i64 x, .i .i64 y, .i .i64 s] (.tup [.b false, .i .i64 1]) := by
  obtain ⟨H', h⟩ := h
  refine .of2 (x := .ret) (e := [(6, .b false), (7, .i .i64 1)]) (H' := H') (hF.S _ _ (by decide)) (d := d38) (by rw [hF.F]; rfl) rfl ?_ (.inl rfl) rfl (by simp) (by simp [sn_i, sn_b, sn_nil, sn8_i, sn8_b, sn8_nil, sn7_i, sn7_b, sn_sl, sn8_sl, slB_some, sn_tup, sn_agg, sn8_agg, mapO, elems])
  simp (disch := omega) [d38, c38, zipE, go_nil, go_last, go_past, go_pastR, go_blkN, go_blkR, go_blkE, go_skip, go_exit, go_ret, go_scope, go_seq, go_reg, go_regd, go_opdN, go_opd, go_opdG, grdd_b, grdd_u, stpd_some, find_some, go_block, go_cond, cnd_b, go_opsN, go_ops, go_opsG, grd_b, grd_u, stp_some, fin_some, up_some, cont_some, k_call, k_mv, k_pick, k_bin, k_eqB, k_eqA, k_not, k_neg, k_conv, k_alloc, k_boxA, k_boxI, k_boxB, k_boxN, k_boxBs, k_ldR, k_ldA, k_ldI, k_ldB, k_stA, k_stI, k_stB, ldC_some, stC_some, k_mkfn, k_slc, k_slcA, k_ixA, k_ixBs, k_ixSl, k_fadr, k_fld, k_ext, k_len, k_app, k_mn, k_mx, k_nilck, k_build, k_bsl1, k_bsl2, b_add, b_sub, b_mul, b_eql, b_neq, b_lss, b_leq, b_gtr, b_geq, Dn.setLast, Dn.getLast, evalO, mapO, Dn.get, putE, keepE_nil, keepE_cons, kp_some, kp_none, TV.one, TV.isAgg, Dn.part, k_boxR, negb, at0, at1, at2, at3, at4, dT, dF, wrapR_i64, Option.bind_some, Option.map_some, sh_fn, h]
theorem fn39_bad {pg : Pg} (hF : Free pg) {x y s : Int} (h : ∃ H', bodyRun pg (den pg) 68 [.i .i64 x, .i .i64 y, .i .i64 s] [] = some (.tup [.nilp, .i .i64 1], H')) : PFn pg 39 [.i .i64 x, .i .i64 y, .i .i64 s] (.tup [.b false, .i .i64 1]) := by
  obtain ⟨H', h⟩ := h
  refine .of2 (x := .ret) (e := [(6, .b false), (7, .i .i64 1)]) (H' := H') (hF.S _ _ (by decide)) (d := d39) (by rw [hF.F]; rfl) rfl ?_ (.inl rfl) rfl (by simp) (by simp [sn_i, sn_b, sn_nil, sn8_i, sn8_b, sn8_nil, sn7_i, sn7_b, sn_sl, sn8_sl, slB_some, sn_tup, sn_agg, sn8_agg, mapO, elems])
  simp (disch := omega) [d39, c39, zipE, go_nil, go_last, go_past, go_pastR, go_blkN, go_blkR, go_blkE, go_skip, go_exit, go_ret, go_scope, go_seq, go_reg, go_regd, go_opdN, go_opd, go_opdG, grdd_b, grdd_u, stpd_some, find_some, go_block, go_cond, cnd_b, go_opsN, go_ops, go_opsG, grd_b, grd_u, stp_some, fin_some, up_some, cont_some, k_call, k_mv, k_pick, k_bin, k_eqB, k_eqA, k_not, k_neg, k_conv, k_alloc, k_boxA, k_boxI, k_boxB, k_boxN, k_boxBs, k_ldR, k_ldA, k_ldI, k_ldB, k_stA, k_stI, k_stB, ldC_some, stC_some, k_mkfn, k_slc, k_slcA, k_ixA, k_ixBs, k_ixSl, k_fadr, k_fld, k_ext, k_len, k_app, k_mn, k_mx, k_nilck, k_build, k_bsl1, k_bsl2, b_add, b_sub, b_mul, b_eql, b_neq, b_lss, b_leq, b_gtr, b_geq, Dn.setLast, Dn.getLast, evalO, mapO, Dn.get, putE, keepE_nil, keepE_cons, kp_some, kp_none, TV.one, TV.isAgg, Dn.part, k_boxR, negb, at0, at1, at2, at3, at4, dT, dF, wrapR_i64, Option.bind_some, Option.map_some, sh_fn, h]

end Go.Proofs.Tryd.Dn

/-
  Knight: the law of what is refused, run.
-/

namespace Go.Proofs.Tryd.Dn
open Go.Dn

set_option maxRecDepth 100000 in
theorem run17 {pg : Pg} (hF : Free pg) (h25 : PFn pg 25 [] (.b true)) (x y s : Int) : ∃ H, bodyRun pg (den pg) 17 [.i .i64 x, .i .i64 y, .i .i64 s] [] = some (.b true, H) := by
  have c25 := fun H => PFn.call h25 (args := []) (ks := []) (fs := []) (cs := []) (H := H) (by simp [snapArgs])
  have lnil : ∀ K, lenK 0 TV.nilsl K = some 0 := fun _ => rfl
  -- what is asked at the end, of a square that is refused
  have last : ∀ (b1 : Bad pg x y [s]) (b2 : Bad pg x y [s, 0]) (b3 : Bad pg x y [0, s]), (∀ H, callRun pg (den pg) (.pu []) [.fn 28 [] [], .i .i64 x, .i .i64 y, .i .i64 s] H = some (.tup [.nilsl, .i .i64 1], H)) ∧
      (∀ H, callRun pg (den pg) (.pu []) [.fn 29 [] [], .i .i64 x, .i .i64 y, .i .i64 s, .i .i64 0] H = some (.tup [.i .i64 0, .b false, .i .i64 1], H)) ∧
      (∀ H, callRun pg (den pg) (.pu []) [.fn 30 [] [], .i .i64 x, .i .i64 y, .i .i64 0, .i .i64 s] H = some (.tup [.nilsl, .b false, .i .i64 1], H)) ∧
      (∀ H, callRun pg (den pg) (.pu []) [.fn 26 [] [], .i .i64 x, .i .i64 y, .i .i64 s, .i .i64 0, .i .i64 1] H = some (.tup [.i .i64 0, .i .i64 1], H)) ∧
      (∀ H, callRun pg (den pg) (.pu []) [.fn 42 [] [], .i .i64 x, .i .i64 y, .i .i64 s, .i .i64 1] H = some (.tup [.nilsl, .i .i64 1], H)) := fun b1 b2 b3 =>
    ⟨fun H => PFn.at (fn28_bad hF b1) (fun H => sa_I (sa_I (sa_I sa_0))) H, fun H => PFn.at (fn29_bad hF b2) (fun H => sa_I (sa_I (sa_I (sa_I sa_0)))) H, fun H => PFn.at (fn30_bad hF b3) (fun H => sa_I (sa_I (sa_I (sa_I sa_0)))) H,
     fun H => PFn.at (fn26_bad hF b2) (fun H => sa_I (sa_I (sa_I (sa_I (sa_I sa_0))))) H, fun H => PFn.at (fn42_bad hF b1) (fun H => sa_I (sa_I (sa_I (sa_I sa_0)))) H⟩
  have fin : ∃ H', go pg (den pg) [.c c17] .normal [(0, .i .i64 x), (1, .i .i64 y), (2, .i .i64 s)] [] = some ⟨.ret, [(6, .b true)], H'⟩ := by
    by_cases hok : OkN x y
    · have c57 := PFn.at ((fn57 (pg := pg) hF x y).1 hok) (fun H => sa_I (sa_I sa_0)) []
      obtain ⟨r, c, h, rfl, rfl⟩ := hok.brd
      have hn := h.n36
      have h63 := lt63 h
      obtain ⟨hcast, wn⟩ := rc_facts h
      have c58 := PFn.at (fn58_ok (pg := pg) hF h) (fun H => sa_I (sa_I sa_0)) []
      have shi := Dn.shl_i (k := .i64) (c := r * c) (by omega)
      rw [hcast] at shi
      have h62 : decide ((r : Int) * c < 62) = true := dT (by rw [← hcast]; omega)
      have hpw : r * c < 2 ^ (r * c) := Nat.lt_two_pow_self
      refine ⟨[], ?_⟩
      by_cases h0 : s < 0
      · obtain ⟨f28, f29, f30, f26, f42⟩ := last (bad_square hF h (by simp) (by simp [outB, h0])) (bad_square hF h (by simp) (by simp [outB, h0])) (bad_square hF h (by simp) (by simp [outB, h0]))
        have o68 := body68_out (pg := pg) hF h (s := s) (.inl h0)
        have c38 := PFn.at (fn38_bad hF o68) (fun H => sa_I (sa_I (sa_I sa_0))) []
        have c39 := PFn.at (fn39_bad hF o68) (fun H => sa_I (sa_I (sa_I sa_0))) []
        simp (disch := omega) [c17, go_nil, go_last, go_past, go_pastR, go_blkN, go_blkR, go_blkE, go_skip, go_exit, go_ret, go_scope, go_seq, go_reg, go_regd, go_opdN, go_opd, go_opdG, grdd_b, grdd_u, stpd_some, find_some, go_block, go_cond, cnd_b, go_opsN, go_ops, go_opsG, grd_b, grd_u, stp_some, fin_some, up_some, cont_some, k_call, k_mv, k_pick, k_bin, k_eqB, k_eqA, k_not, k_neg, k_conv, k_alloc, k_boxA, k_boxI, k_boxB, k_boxN, k_boxBs, k_ldR, k_ldA, k_ldI, k_ldB, k_stA, k_stI, k_stB, ldC_some, stC_some, k_mkfn, k_slc, k_slcA, k_ixA, k_ixBs, k_ixSl, k_fadr, k_fld, k_ext, k_len, k_app, k_mn, k_mx, k_nilck, k_build, k_bsl1, k_bsl2, b_add, b_sub, b_mul, b_eql, b_neq, b_lss, b_leq, b_gtr, b_geq, Dn.setLast, Dn.getLast, evalO, mapO, Dn.get, putE, keepE_nil, keepE_cons, kp_some, kp_none, TV.one, TV.isAgg, Dn.part, k_boxR, negb, at0, at1, at2, at3, at4, dT, dF, wrapR_i64, Option.bind_some, Option.map_some, c57, c58, h0, c38, c39, f28, f29, f30, f26, f42, lnil, c25]
      · by_cases h1 : s < (r : Int) * c
        · have hge : ¬ (((2 ^ (r * c) : Nat) : Int) ≤ s) := by rw [← hcast] at h1; omega
          generalize ((2 ^ (r * c) : Nat) : Int) = P2 at *
          simp (disch := omega) [c17, go_nil, go_last, go_past, go_pastR, go_blkN, go_blkR, go_blkE, go_skip, go_exit, go_ret, go_scope, go_seq, go_reg, go_regd, go_opdN, go_opd, go_opdG, grdd_b, grdd_u, stpd_some, find_some, go_block, go_cond, cnd_b, go_opsN, go_ops, go_opsG, grd_b, grd_u, stp_some, fin_some, up_some, cont_some, k_call, k_mv, k_pick, k_bin, k_eqB, k_eqA, k_not, k_neg, k_conv, k_alloc, k_boxA, k_boxI, k_boxB, k_boxN, k_boxBs, k_ldR, k_ldA, k_ldI, k_ldB, k_stA, k_stI, k_stB, ldC_some, stC_some, k_mkfn, k_slc, k_slcA, k_ixA, k_ixBs, k_ixSl, k_fadr, k_fld, k_ext, k_len, k_app, k_mn, k_mx, k_nilck, k_build, k_bsl1, k_bsl2, b_add, b_sub, b_mul, b_eql, b_neq, b_lss, b_leq, b_gtr, b_geq, Dn.setLast, Dn.getLast, evalO, mapO, Dn.get, putE, keepE_nil, keepE_cons, kp_some, kp_none, TV.one, TV.isAgg, Dn.part, k_boxR, negb, at0, at1, at2, at3, at4, dT, dF, wrapR_i64, Option.bind_some, Option.map_some, c57, c58, h0, wn, h62, shi, hge, h1, c25]
        · have hout : outB ((r * c : Nat) : Int) s = true := by unfold outB; rw [Bool.or_eq_true]; exact .inr (dT (by rw [hcast]; omega))
          obtain ⟨f28, f29, f30, f26, f42⟩ := last (bad_square hF h (by simp) (by simp only [List.any_cons, List.any_nil, hout, Bool.true_or, Bool.or_true])) (bad_square hF h (by simp) (by simp only [List.any_cons, List.any_nil, hout, Bool.true_or, Bool.or_true])) (bad_square hF h (by simp) (by simp only [List.any_cons, List.any_nil, hout, Bool.true_or, Bool.or_true]))
          by_cases hge : ((2 ^ (r * c) : Nat) : Int) ≤ s
          · have o68 := body68_out (pg := pg) hF h (s := s) (.inr hge)
            have c38 := PFn.at (fn38_bad hF o68) (fun H => sa_I (sa_I (sa_I sa_0))) []
            have c39 := PFn.at (fn39_bad hF o68) (fun H => sa_I (sa_I (sa_I sa_0))) []
            generalize ((2 ^ (r * c) : Nat) : Int) = P2 at *
            simp (disch := omega) [c17, go_nil, go_last, go_past, go_pastR, go_blkN, go_blkR, go_blkE, go_skip, go_exit, go_ret, go_scope, go_seq, go_reg, go_regd, go_opdN, go_opd, go_opdG, grdd_b, grdd_u, stpd_some, find_some, go_block, go_cond, cnd_b, go_opsN, go_ops, go_opsG, grd_b, grd_u, stp_some, fin_some, up_some, cont_some, k_call, k_mv, k_pick, k_bin, k_eqB, k_eqA, k_not, k_neg, k_conv, k_alloc, k_boxA, k_boxI, k_boxB, k_boxN, k_boxBs, k_ldR, k_ldA, k_ldI, k_ldB, k_stA, k_stI, k_stB, ldC_some, stC_some, k_mkfn, k_slc, k_slcA, k_ixA, k_ixBs, k_ixSl, k_fadr, k_fld, k_ext, k_len, k_app, k_mn, k_mx, k_nilck, k_build, k_bsl1, k_bsl2, b_add, b_sub, b_mul, b_eql, b_neq, b_lss, b_leq, b_gtr, b_geq, Dn.setLast, Dn.getLast, evalO, mapO, Dn.get, putE, keepE_nil, keepE_cons, kp_some, kp_none, TV.one, TV.isAgg, Dn.part, k_boxR, negb, at0, at1, at2, at3, at4, dT, dF, wrapR_i64, Option.bind_some, Option.map_some, c57, c58, h0, wn, h62, shi, hge, h1, c38, c39, f28, f29, f30, f26, f42, lnil, c25]
          · generalize ((2 ^ (r * c) : Nat) : Int) = P2 at *
            simp (disch := omega) [c17, go_nil, go_last, go_past, go_pastR, go_blkN, go_blkR, go_blkE, go_skip, go_exit, go_ret, go_scope, go_seq, go_reg, go_regd, go_opdN, go_opd, go_opdG, grdd_b, grdd_u, stpd_some, find_some, go_block, go_cond, cnd_b, go_opsN, go_ops, go_opsG, grd_b, grd_u, stp_some, fin_some, up_some, cont_some, k_call, k_mv, k_pick, k_bin, k_eqB, k_eqA, k_not, k_neg, k_conv, k_alloc, k_boxA, k_boxI, k_boxB, k_boxN, k_boxBs, k_ldR, k_ldA, k_ldI, k_ldB, k_stA, k_stI, k_stB, ldC_some, stC_some, k_mkfn, k_slc, k_slcA, k_ixA, k_ixBs, k_ixSl, k_fadr, k_fld, k_ext, k_len, k_app, k_mn, k_mx, k_nilck, k_build, k_bsl1, k_bsl2, b_add, b_sub, b_mul, b_eql, b_neq, b_lss, b_leq, b_gtr, b_geq, Dn.setLast, Dn.getLast, evalO, mapO, Dn.get, putE, keepE_nil, keepE_cons, kp_some, kp_none, TV.one, TV.isAgg, Dn.part, k_boxR, negb, at0, at1, at2, at3, at4, dT, dF, wrapR_i64, Option.bind_some, Option.map_some, c57, c58, h0, wn, h62, shi, hge, h1, f28, f29, f30, f26, f42, lnil, c25]
    · have c57 := fun H => PFn.at ((fn57 (pg := pg) hF x y).2 hok) (fun H => sa_I (sa_I sa_0)) H
      have c58 := fun H => PFn.at (fn58_bad (pg := pg) hF hok) (fun H => sa_I (sa_I sa_0)) H
      obtain ⟨H1, hH1⟩ : ∃ H1 : Heap, H1 = [] ++ [.cells [.i .i64 0] false] := ⟨_, rfl⟩
      obtain ⟨H2, hH2⟩ : ∃ H2 : Heap, H2 = H1 ++ [.cells [.i .i64 0] false] := ⟨_, rfl⟩
      obtain ⟨T1, hT1⟩ : ∃ T1, T1 = TV.sl 0 0 1 false 1 (some 1) := ⟨_, rfl⟩
      obtain ⟨T2, hT2⟩ : ∃ T2, T2 = TV.sl 1 0 1 false 1 (some 1) := ⟨_, rfl⟩
      have kb1 : dkc pg (den pg) (.bsl false [.i .i64 0] false 1 [0]) [.i .i64 0] [] = some (T1, H1) := by rw [hT1, hH1]; rfl
      have kb2 : dkc pg (den pg) (.bsl false [.i .i64 0] false 1 [0]) [.i .i64 0] H1 = some (T2, H2) := by rw [hT2, hH2, hH1]; rfl
      have s1 : snap .borrow H1 9 T1 = some (.bs true 1 [.i .i64 0]) := by rw [hT1, hH1]; rfl
      have s2 : snap .borrow H2 9 T2 = some (.bs true 1 [.i .i64 0]) := by rw [hT2, hH2, hH1]; rfl
      have c51 := PFn.call (fn51_bad (pg := pg) hF hok (A := .bs true 1 [.i .i64 0])) (args := [.i .i64 x, .i .i64 y, T1]) (ks := []) (fs := []) (cs := []) (H := H1) (by simp [snapArgs, sn_i, s1])
      have c52 := PFn.call (fn52_bad (pg := pg) hF hok (A := .bs true 1 [.i .i64 0])) (args := [.i .i64 x, .i .i64 y, T2]) (ks := []) (fs := []) (cs := []) (H := H2) (by simp [snapArgs, sn_i, s2])
      have c19 := fun H => PFn.at (fn19_bad (pg := pg) hF hok) (fun H => sa_I (sa_I sa_0)) H
      have c20 := fun H => PFn.at (fn20_bad (pg := pg) hF hok) (fun H => sa_I (sa_I sa_0)) H
      have c35 := fun H => PFn.at (fn35_bad (pg := pg) hF hok) (fun H => sa_I (sa_I sa_0)) H
      have c45 := fun H => PFn.at (fn45_bad (pg := pg) hF hok) (fun H => sa_I (sa_I sa_0)) H
      have c46 := fun H => PFn.at (fn46_bad (pg := pg) hF hok) (fun H => sa_I (sa_I sa_0)) H
      have c54 := fun H => PFn.at (fn54_bad (pg := pg) hF hok) (fun H => sa_I (sa_I sa_0)) H
      have o68 := body68_bad (pg := pg) hF hok s
      have c38 := fun H => PFn.at (fn38_bad hF o68) (fun H => sa_I (sa_I (sa_I sa_0))) H
      have c39 := fun H => PFn.at (fn39_bad hF o68) (fun H => sa_I (sa_I (sa_I sa_0))) H
      obtain ⟨f28, f29, f30, f26, f42⟩ := last (bad_board hF hok _) (bad_board hF hok _) (bad_board hF hok _)
      refine ⟨H2, ?_⟩
      simp (disch := omega) [c17, go_nil, go_last, go_past, go_pastR, go_blkN, go_blkR, go_blkE, go_skip, go_exit, go_ret, go_scope, go_seq, go_reg, go_regd, go_opdN, go_opd, go_opdG, grdd_b, grdd_u, stpd_some, find_some, go_block, go_cond, cnd_b, go_opsN, go_ops, go_opsG, grd_b, grd_u, stp_some, fin_some, up_some, cont_some, k_call, k_mv, k_pick, k_bin, k_eqB, k_eqA, k_not, k_neg, k_conv, k_alloc, k_boxA, k_boxI, k_boxB, k_boxN, k_boxBs, k_ldR, k_ldA, k_ldI, k_ldB, k_stA, k_stI, k_stB, ldC_some, stC_some, k_mkfn, k_slc, k_slcA, k_ixA, k_ixBs, k_ixSl, k_fadr, k_fld, k_ext, k_len, k_app, k_mn, k_mx, k_nilck, k_build, k_bsl1, k_bsl2, b_add, b_sub, b_mul, b_eql, b_neq, b_lss, b_leq, b_gtr, b_geq, Dn.setLast, Dn.getLast, evalO, mapO, Dn.get, putE, keepE_nil, keepE_cons, kp_some, kp_none, TV.one, TV.isAgg, Dn.part, k_boxR, negb, at0, at1, at2, at3, at4, dT, dF, wrapR_i64, Option.bind_some, Option.map_some, c57, c58, kb1, kb2, c51, c52, c19, c20, c35, c45, c46, c54, c38, c39, f28, f29, f30, f26, f42, lnil, c25]
  obtain ⟨H', hgo⟩ := fin
  exact ⟨H', body_of (x := .ret) (e := [(6, .b true)]) (d := d17) (by rw [hF.F]; rfl) rfl (by simpa [d17, zipE] using hgo) (.inl rfl) rfl⟩

end Go.Proofs.Tryd.Dn

