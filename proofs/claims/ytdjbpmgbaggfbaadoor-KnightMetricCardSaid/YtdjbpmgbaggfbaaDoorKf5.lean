/-
  Knight: the least number of steps.
-/
import Derived.Test.YtdjbpmgbaggfbaaDoorKf4
import Derived.Test.YtdjbpmgbaggfbaaDoorKf3
set_option linter.unusedSimpArgs false
set_option linter.unusedVariables false

namespace Go.Proofs.Tryd.Dn
open Go.Dn

theorem fn29 {pg : Pg} (hF : Free pg) {r c a b : Nat} (h : Brd r c) (ha : a < r * c) (hb : b < r * c) :
    (∃ m : Nat, PFn pg 29 [.i .i64 (r : Int), .i .i64 (c : Int), .i .i64 (a : Int), .i .i64 (b : Int)] (.tup [.i .i64 (m : Int), .b true, .i .i64 0]) ∧ (front r c a m).testBit b = true ∧ (∀ k, k < m → (front r c a k).testBit b = false) ∧ m ≤ 64) ∨
    (∃ m : Nat, PFn pg 29 [.i .i64 (r : Int), .i .i64 (c : Int), .i .i64 (a : Int), .i .i64 (b : Int)] (.tup [.i .i64 0, .b false, .i .i64 0]) ∧ front r c a m = 0 ∧ ∀ k, k < m → (front r c a k).testBit b = false) := by
  have hn := h.n36
  obtain ⟨H0, hH0⟩ : ∃ H0 : Heap, H0 = [.cells [.i .i64 (a : Int), .i .i64 (b : Int)] false] := ⟨_, rfl⟩
  have hv : elI.View H0 (.sl 0 0 1 false 2 (some 2)) [(a : Int), (b : Int)] := by rw [hH0]; exact two_view [] _ _
  obtain ⟨H1, h1, h2, h3, h4⟩ := body59 hF h hv (by simp)
  have hno : [(a : Int), (b : Int)].any (outB ((r * c : Nat) : Int)) = false := by rw [List.any_cons, List.any_cons, inB ha, inB hb]; rfl
  have hl0 : H0.length = 1 := by rw [hH0]; rfl
  rw [hno, hl0] at h1
  rw [hl0] at h2 h3
  simp only [Bool.false_eq_true, if_false] at h1
  have hd : pg.F 29 = some d29 := by rw [hF.F]; rfl
  have kb : dkc pg (den pg) (.bsl false [.i .i64 0] false 2 [0, 1]) [.i .i64 (a : Int), .i .i64 (b : Int)] [] = some (.sl 0 0 1 false 2 (some 2), H0) := by rw [k_bsl2, hH0]; rfl
  have hsn : snap .borrow H1 9 (.ref 1 0) = some (.bp true (.agg (bM r c))) := by
    have hm : mapO (snap .borrow H1 8) (bM r c) = some (bM r c) := mapO_self fun x hx => by obtain ⟨k, n, rfl⟩ := bM_int hx; exact sn8_i _ _ _ _
    rw [snap]
    simp [h2, hm]
  have w0 : wrapR .i64 (-1 : Int) = .i .i64 (-1) := wrapR_i64 (by omega)
  rcases fn65 hF (bo := true) h ha hb with ⟨m, ws, p1, p2, p3, p4, _⟩ | ⟨m, p2, p3, p4⟩
  · obtain ⟨N, hN, hz⟩ := lv_end h ha
    have hm64 : m ≤ 64 := by
      apply Classical.byContradiction
      intro hc
      have h1 := front_walks h ha m b hb p3
      have h2 := no_steps h ha hb (N := N) hz (fun k hk => p4 k (by omega)) m
      omega
    have c65 := PFn.call p2 (args := [.ref 1 0, .i .i64 (a : Int), .i .i64 (b : Int)]) (ks := []) (fs := []) (cs := []) (H := H1) (by simp [snapArgs, sn_i, hsn])
    have hlen := El.lt_len (E := elI) false ws
    rw [p1] at hlen
    have hne : ∃ l, elI.lt false ws = .bs false 1 l := by
      cases ws with
      | nil => simp at p1
      | cons x l => exact ⟨_, rfl⟩
    obtain ⟨l, hl⟩ := hne
    rw [hl] at c65 hlen
    have w1 : wrapR .i64 (m : Int) = .i .i64 (m : Int) := wrapR_i64 (by omega)
    refine .inl ⟨m, .of2 (x := .ret) (e := [(8, .i .i64 (m : Int)), (9, .b true), (10, .i .i64 0)]) (H' := H1) (hF.S _ _ (by decide)) hd rfl ?_ (.inl rfl) rfl (by simp) (by simp [sn_i, sn_b, sn_nil, sn8_i, sn8_b, sn8_nil, sn7_i, sn7_b, sn_sl, sn8_sl, slB_some, sn_tup, sn_agg, sn8_agg, mapO, elems]), p3, p4, hm64⟩
    have hen : dkc pg (den pg) (.eqN 0 true) [.bs false 1 l, .nilsl] H1 = some (.b true, H1) := rfl
    by_cases hpos : 0 < m
    · simp [d29, c29, zipE, go_nil, go_last, go_past, go_pastR, go_blkN, go_blkR, go_blkE, go_skip, go_exit, go_ret, go_scope, go_seq, go_reg, go_regd, go_opdN, go_opd, go_opdG, grdd_b, grdd_u, stpd_some, find_some, go_block, go_cond, cnd_b, go_opsN, go_ops, go_opsG, grd_b, grd_u, stp_some, fin_some, up_some, cont_some, k_call, k_mv, k_pick, k_bin, k_eqB, k_eqA, k_not, k_neg, k_conv, k_alloc, k_boxA, k_boxI, k_boxB, k_boxN, k_boxBs, k_ldR, k_ldA, k_ldI, k_ldB, k_stA, k_stI, k_stB, ldC_some, stC_some, k_mkfn, k_slc, k_slcA, k_ixA, k_ixBs, k_ixSl, k_fadr, k_fld, k_ext, k_len, k_app, k_mn, k_mx, k_nilck, k_build, k_bsl1, k_bsl2, b_add, b_sub, b_mul, b_eql, b_neq, b_lss, b_leq, b_gtr, b_geq, Dn.setLast, Dn.getLast, evalO, mapO, Dn.get, putE, keepE, TV.one, TV.isAgg, Dn.part, kb, sh_fn, h1, c65, hlen, w1, hpos, hen]
    · have : m = 0 := by omega
      subst this
      have w2 : wrapR .i64 (0 : Int) = .i .i64 0 := wrapR_i64 (by omega)
      simp [d29, c29, zipE, go_nil, go_last, go_past, go_pastR, go_blkN, go_blkR, go_blkE, go_skip, go_exit, go_ret, go_scope, go_seq, go_reg, go_regd, go_opdN, go_opd, go_opdG, grdd_b, grdd_u, stpd_some, find_some, go_block, go_cond, cnd_b, go_opsN, go_ops, go_opsG, grd_b, grd_u, stp_some, fin_some, up_some, cont_some, k_call, k_mv, k_pick, k_bin, k_eqB, k_eqA, k_not, k_neg, k_conv, k_alloc, k_boxA, k_boxI, k_boxB, k_boxN, k_boxBs, k_ldR, k_ldA, k_ldI, k_ldB, k_stA, k_stI, k_stB, ldC_some, stC_some, k_mkfn, k_slc, k_slcA, k_ixA, k_ixBs, k_ixSl, k_fadr, k_fld, k_ext, k_len, k_app, k_mn, k_mx, k_nilck, k_build, k_bsl1, k_bsl2, b_add, b_sub, b_mul, b_eql, b_neq, b_lss, b_leq, b_gtr, b_geq, Dn.setLast, Dn.getLast, evalO, mapO, Dn.get, putE, keepE, TV.one, TV.isAgg, Dn.part, kb, sh_fn, h1, c65, hlen, w2, hen]
  · have c65 := PFn.call p2 (args := [.ref 1 0, .i .i64 (a : Int), .i .i64 (b : Int)]) (ks := []) (fs := []) (cs := []) (H := H1) (by simp [snapArgs, sn_i, hsn])
    refine .inr ⟨m, .of2 (x := .ret) (e := [(8, .i .i64 0), (9, .b false), (10, .i .i64 0)]) (H' := H1) (hF.S _ _ (by decide)) hd rfl ?_ (.inl rfl) rfl (by simp) (by simp [sn_i, sn_b, sn_nil, sn8_i, sn8_b, sn8_nil, sn7_i, sn7_b, sn_sl, sn8_sl, slB_some, sn_tup, sn_agg, sn8_agg, mapO, elems]), p3, p4⟩
    have hen : dkc pg (den pg) (.eqN 0 true) [.nilsl, .nilsl] H1 = some (.b false, H1) := rfl
    have hlen : ∀ K, lenK 0 .nilsl K = some 0 := fun K => rfl
    simp [d29, c29, zipE, go_nil, go_last, go_past, go_pastR, go_blkN, go_blkR, go_blkE, go_skip, go_exit, go_ret, go_scope, go_seq, go_reg, go_regd, go_opdN, go_opd, go_opdG, grdd_b, grdd_u, stpd_some, find_some, go_block, go_cond, cnd_b, go_opsN, go_ops, go_opsG, grd_b, grd_u, stp_some, fin_some, up_some, cont_some, k_call, k_mv, k_pick, k_bin, k_eqB, k_eqA, k_not, k_neg, k_conv, k_alloc, k_boxA, k_boxI, k_boxB, k_boxN, k_boxBs, k_ldR, k_ldA, k_ldI, k_ldB, k_stA, k_stI, k_stB, ldC_some, stC_some, k_mkfn, k_slc, k_slcA, k_ixA, k_ixBs, k_ixSl, k_fadr, k_fld, k_ext, k_len, k_app, k_mn, k_mx, k_nilck, k_build, k_bsl1, k_bsl2, b_add, b_sub, b_mul, b_eql, b_neq, b_lss, b_leq, b_gtr, b_geq, Dn.setLast, Dn.getLast, evalO, mapO, Dn.get, putE, keepE, TV.one, TV.isAgg, Dn.part, kb, sh_fn, h1, c65, hlen, w0, hen]

end Go.Proofs.Tryd.Dn

/-
  Knight: the law of steps.
-/

namespace Go.Proofs.Tryd.Dn
open Go.Dn

end Go.Proofs.Tryd.Dn

/-
  Knight: the law of steps, run.
-/

namespace Go.Proofs.Tryd.Dn
open Go.Dn

end Go.Proofs.Tryd.Dn

