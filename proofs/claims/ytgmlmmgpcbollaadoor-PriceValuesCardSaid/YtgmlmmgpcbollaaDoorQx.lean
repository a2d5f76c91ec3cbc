/-
  The reference's value of a bundle, and what is a bundle.
-/
import Derived.Test.YtgmlmmgpcbollaaDoorQw
set_option linter.unusedSimpArgs false
set_option linter.unusedVariables false

namespace Go.Proofs.Tryd.Dn
open Go.Dn

theorem fn47 {pg : Pg} (hF : Free pg) {t : TV} {l : List Int} (ht : SV t l) {n : Nat} (hn : n ≤ 1000) : PFn pg 47 [t, .i .i64 (n : Int)] (elI.lt false (l.take n)) := by
  have hlen := (ht.view []).lenK
  obtain ⟨v, hv, hview, _⟩ := (ht.view []).slc (lo := 0) (hi := min n l.length) (bl := false) (bh := true) (vs := [.i .i64 ((min n l.length : Nat) : Int)]) (by omega) (by omega) (by simp [bounds3, bound])
  have htk : (l.take (min n l.length)).drop 0 = l.take n := by
    rw [List.drop_zero]
    by_cases h : n ≤ l.length
    · rw [Nat.min_eq_left h]
    · rw [Nat.min_eq_right (by omega), List.take_length, List.take_of_length_le (by omega)]
  rw [htk] at hview
  obtain ⟨t', H', ha, ho, _⟩ := El.app (E := elI) (bytes := 8) (H := []) (t := .nilsl) (l := []) (.inl ⟨rfl, rfl⟩) hview (by simp; omega)
  rw [List.nil_append] at ho
  have ha' : appRun 1 false 8 .nilsl v [] = some (t', H') := ha
  have hv' : slcRun false true false 1 false t [.i .i64 ((min n l.length : Nat) : Int)] = some v := hv
  rw [← mn_nat] at hv'
  simp only [Int.ofNat_lt] at hv'
  refine .of_go (x := .ret) (e := [(4, t')]) (H' := H') (vs := [t']) (hF.S _ _ (by decide)) (d := d47) (by rw [hF.F]; rfl) rfl ?_ (.inl rfl) rfl (ho.fin elI_flat)
  simp [d47, c47, zipE, go_nil, go_last, go_past, go_pastR, go_blkN, go_blkR, go_blkE, go_skip, go_exit, go_ret, go_scope, go_seq, go_reg, go_block, go_cond, cnd_b, go_opsN, go_ops, go_opsG, grd_b, grd_u, stp_some, fin_some, up_some, cont_some, k_call, k_mv, k_pick, k_bin, k_eqB, k_eqA, k_not, k_neg, k_conv, k_alloc, k_boxA, k_boxI, k_boxB, k_boxN, k_boxBs, k_ldR, k_ldA, k_ldI, k_ldB, k_stA, k_stI, k_stB, ldC_some, stC_some, k_mkfn, k_slc, k_slcA, k_ixA, k_ixBs, k_ixSl, k_fadr, k_fld, k_ext, k_len, k_app, k_mn, k_mx, k_nilck, k_build, k_bsl1, k_bsl2, b_add, b_sub, b_mul, b_eql, b_neq, b_lss, b_leq, b_gtr, b_geq, Dn.setLast, Dn.getLast, evalO, mapO, Dn.get, putE, keepE, TV.one, TV.isAgg, Dn.part, hlen, hv', ha']

theorem call47 {pg : Pg} (hF : Free pg) {a : TV} {l : List Int} (ha : SV a l) {n : Nat} (hn : n ≤ 1000) (H : Heap) : callRun pg (den pg) (.pu []) [.fn 47 [] [], a, .i .i64 (n : Int)] H = some (elI.lt false (l.take n), H) := by
  obtain ⟨a', h1, h2⟩ := ha.snap H 7
  exact PFn.call (fn47 hF h2 hn) (args := [a, .i .i64 (n : Int)]) (by simp [snapArgs, sn_i, h1])

theorem l48_all {pg : Pg} {X : List Obs} {B : TV} {b : List Int} (hB : SV B b) (hl : b.length ≤ 1000) {H : Heap} : ∀ (d i : Nat), i + d = b.length →
    ((b.drop i).any (outside 0 20) = true ∧ den pg l48_1 [(0, (elS true).lt true X), (1, B), (5, .i .i64 (i : Int))] H = some ⟨.ret, [(4, .b false)], H⟩) ∨
    ((b.drop i).any (outside 0 20) = false ∧ ∃ e, den pg l48_1 [(0, (elS true).lt true X), (1, B), (5, .i .i64 (i : Int))] H = some ⟨.exit 0, e, H⟩ ∧ keepE [0, 1] e = [(0, (elS true).lt true X), (1, B)])
  | 0, i, h => by
    have e1 : ¬ ((i : Int) < (b.length : Int)) := by omega
    have hlen := (hB.view H).lenK H
    refine .inr ⟨by rw [List.drop_eq_nil_of_le (by omega)]; rfl, [(0, (elS true).lt true X), (1, B), (5, .i .i64 (i : Int)), (9, .b false)], ?_, rfl⟩
    rw [l48_1, den_loop]
    simp [b48_0, go_nil, go_last, go_past, go_pastR, go_blkN, go_blkR, go_blkE, go_skip, go_exit, go_ret, go_scope, go_seq, go_reg, go_block, go_cond, cnd_b, go_opsN, go_ops, go_opsG, grd_b, grd_u, stp_some, fin_some, up_some, cont_some, k_call, k_mv, k_pick, k_bin, k_eqB, k_eqA, k_not, k_neg, k_conv, k_alloc, k_boxA, k_boxI, k_boxB, k_boxN, k_boxBs, k_ldR, k_ldA, k_ldI, k_ldB, k_stA, k_stI, k_stB, ldC_some, stC_some, k_mkfn, k_slc, k_slcA, k_ixA, k_ixBs, k_ixSl, k_fadr, k_fld, k_ext, k_len, k_app, k_mn, k_mx, k_nilck, k_build, k_bsl1, k_bsl2, b_add, b_sub, b_mul, b_eql, b_neq, b_lss, b_leq, b_gtr, b_geq, Dn.setLast, Dn.getLast, evalO, mapO, Dn.get, putE, keepE, TV.one, TV.isAgg, Dn.part, hlen, e1]
  | d + 1, i, h => by
    have hi : i < b.length := by omega
    have e1 : ((i : Int) < (b.length : Int)) := by omega
    have e2 : wrapR .i64 ((i : Int) + 1) = .i .i64 ((i : Int) + 1) := wrapR_i64 (by omega)
    have hlen := (hB.view H).lenK H
    obtain ⟨p, hp, hv⟩ := ixI (pg := pg) (R := den pg) (hB.view H) (List.getElem?_eq_getElem hi)
    rw [List.drop_eq_getElem_cons hi, List.any_cons]
    by_cases h1 : b[i] < 0
    · refine .inl ⟨by simp [outside, h1], ?_⟩
      rw [l48_1, den_loop]
      simp [b48_0, go_nil, go_last, go_past, go_pastR, go_blkN, go_blkR, go_blkE, go_skip, go_exit, go_ret, go_scope, go_seq, go_reg, go_block, go_cond, cnd_b, go_opsN, go_ops, go_opsG, grd_b, grd_u, stp_some, fin_some, up_some, cont_some, k_call, k_mv, k_pick, k_bin, k_eqB, k_eqA, k_not, k_neg, k_conv, k_alloc, k_boxA, k_boxI, k_boxB, k_boxN, k_boxBs, k_ldR, k_ldA, k_ldI, k_ldB, k_stA, k_stI, k_stB, ldC_some, stC_some, k_mkfn, k_slc, k_slcA, k_ixA, k_ixBs, k_ixSl, k_fadr, k_fld, k_ext, k_len, k_app, k_mn, k_mx, k_nilck, k_build, k_bsl1, k_bsl2, b_add, b_sub, b_mul, b_eql, b_neq, b_lss, b_leq, b_gtr, b_geq, Dn.setLast, Dn.getLast, evalO, mapO, Dn.get, putE, keepE, TV.one, TV.isAgg, Dn.part, hlen, e1, hp, hv, h1]
    · by_cases h2 : 20 < b[i]
      · refine .inl ⟨by simp [outside, h2], ?_⟩
        rw [l48_1, den_loop]
        simp [b48_0, go_nil, go_last, go_past, go_pastR, go_blkN, go_blkR, go_blkE, go_skip, go_exit, go_ret, go_scope, go_seq, go_reg, go_block, go_cond, cnd_b, go_opsN, go_ops, go_opsG, grd_b, grd_u, stp_some, fin_some, up_some, cont_some, k_call, k_mv, k_pick, k_bin, k_eqB, k_eqA, k_not, k_neg, k_conv, k_alloc, k_boxA, k_boxI, k_boxB, k_boxN, k_boxBs, k_ldR, k_ldA, k_ldI, k_ldB, k_stA, k_stI, k_stB, ldC_some, stC_some, k_mkfn, k_slc, k_slcA, k_ixA, k_ixBs, k_ixSl, k_fadr, k_fld, k_ext, k_len, k_app, k_mn, k_mx, k_nilck, k_build, k_bsl1, k_bsl2, b_add, b_sub, b_mul, b_eql, b_neq, b_lss, b_leq, b_gtr, b_geq, Dn.setLast, Dn.getLast, evalO, mapO, Dn.get, putE, keepE, TV.one, TV.isAgg, Dn.part, hlen, e1, hp, hv, h1, h2]
      · have h3 : outside 0 20 b[i] = false := by simp [outside]; omega
        rw [h3, Bool.false_or]
        have hstep : den pg l48_1 [(0, (elS true).lt true X), (1, B), (5, .i .i64 (i : Int))] H = den pg l48_1 [(0, (elS true).lt true X), (1, B), (5, .i .i64 ((i + 1 : Nat) : Int))] H := by
          rw [l48_1, den_loop]
          simp [l48_1, b48_0, go_nil, go_last, go_past, go_pastR, go_blkN, go_blkR, go_blkE, go_skip, go_exit, go_ret, go_scope, go_seq, go_reg, go_block, go_cond, cnd_b, go_opsN, go_ops, go_opsG, grd_b, grd_u, stp_some, fin_some, up_some, cont_some, k_call, k_mv, k_pick, k_bin, k_eqB, k_eqA, k_not, k_neg, k_conv, k_alloc, k_boxA, k_boxI, k_boxB, k_boxN, k_boxBs, k_ldR, k_ldA, k_ldI, k_ldB, k_stA, k_stI, k_stB, ldC_some, stC_some, k_mkfn, k_slc, k_slcA, k_ixA, k_ixBs, k_ixSl, k_fadr, k_fld, k_ext, k_len, k_app, k_mn, k_mx, k_nilck, k_build, k_bsl1, k_bsl2, b_add, b_sub, b_mul, b_eql, b_neq, b_lss, b_leq, b_gtr, b_geq, Dn.setLast, Dn.getLast, evalO, mapO, Dn.get, putE, keepE, TV.one, TV.isAgg, Dn.part, hlen, e1, e2, hp, hv, h1, h2]
        rw [hstep]
        exact l48_all hB hl d (i + 1) (by omega)

theorem fn48 {pg : Pg} (hF : Free pg) {X : List Obs} {g : Nat} (hm : Market X g) {B : TV} {b : List Int} (hB : SV B b) (hl : b.length ≤ 1000) :
    ∃ r : Bool, PFn pg 48 [(elS true).lt true X, B] (.b r) ∧ (r = true ↔ Bnd g b) := by
  have hn1 := hm.n1
  have hd : pg.F 48 = some d48 := by rw [hF.F]; rfl
  rcases l48_all (pg := pg) (X := X) hB hl (H := []) b.length 0 (by omega) with ⟨h1, h2⟩ | ⟨h1, e, h2, h3⟩
  · refine ⟨false, .of1 (x := .ret) (e := [(4, .b false)]) (H' := []) (hF.S _ _ (by decide)) hd rfl ?_ (.inl rfl) rfl (by simp [sn_i, sn_b, sn_nil, sn8_i, sn8_b, sn8_nil, sn7_i, sn7_b, sn_sl, sn8_sl, slB_some, sn_tup, sn_agg, sn8_agg, mapO, elems]), ⟨fun h => (by cases h), fun h => ?_⟩⟩
    · simp only [Int.natCast_zero] at h2
      simp [d48, c48, zipE, go_nil, go_last, go_past, go_pastR, go_blkN, go_blkR, go_blkE, go_skip, go_exit, go_ret, go_scope, go_seq, go_reg, go_block, go_cond, cnd_b, go_opsN, go_ops, go_opsG, grd_b, grd_u, stp_some, fin_some, up_some, cont_some, k_call, k_mv, k_pick, k_bin, k_eqB, k_eqA, k_not, k_neg, k_conv, k_alloc, k_boxA, k_boxI, k_boxB, k_boxN, k_boxBs, k_ldR, k_ldA, k_ldI, k_ldB, k_stA, k_stI, k_stB, ldC_some, stC_some, k_mkfn, k_slc, k_slcA, k_ixA, k_ixBs, k_ixSl, k_fadr, k_fld, k_ext, k_len, k_app, k_mn, k_mx, k_nilck, k_build, k_bsl1, k_bsl2, b_add, b_sub, b_mul, b_eql, b_neq, b_lss, b_leq, b_gtr, b_geq, Dn.setLast, Dn.getLast, evalO, mapO, Dn.get, putE, keepE, TV.one, TV.isAgg, Dn.part, go_denK (c := l48_1) rfl, h2]
    · exfalso
      rw [List.drop_zero, List.any_eq_true] at h1
      obtain ⟨x, hx, ho⟩ := h1
      have := h.r x hx
      simp [outside] at ho
      omega
  · obtain ⟨a1, a2, _, _⟩ := prices_ok hm (i := 0) (by omega)
    obtain ⟨bo, a, c, hix, ha, hc⟩ := (elS_RV true true X).ix (pg := pg) (R := den pg) (getD_obs (i := 0) (by omega)) []
    simp only [Int.natCast_zero] at hix h2
    obtain ⟨f1, f2⟩ := k_fadrP (pg := pg) (R := den pg) bo a c ha.noagg hc.noagg []
    have d1 := k_ldV (pg := pg) (R := den pg) bo a ha.one []
    have la := (ha.view []).lenK []
    rw [a1] at la
    have lb := (hB.view []).lenK []
    have g0 := keep_get h3 (s := 0) (by simp) rfl
    have g1 := keep_get h3 (s := 1) (by simp) rfl
    refine ⟨decide (b.length = g), .of1 (x := .ret) (e := [(4, .b (decide (b.length = g)))]) (H' := []) (hF.S _ _ (by decide)) hd rfl ?_ (.inl rfl) rfl (by simp [sn_i, sn_b, sn_nil, sn8_i, sn8_b, sn8_nil, sn7_i, sn7_b, sn_sl, sn8_sl, slB_some, sn_tup, sn_agg, sn8_agg, mapO, elems]), ?_⟩
    · simp [d48, c48, zipE, go_nil, go_last, go_past, go_pastR, go_blkN, go_blkR, go_blkE, go_skip, go_exit, go_ret, go_scope, go_seq, go_reg, go_block, go_cond, cnd_b, go_opsN, go_ops, go_opsG, grd_b, grd_u, stp_some, fin_some, up_some, cont_some, k_call, k_mv, k_pick, k_bin, k_eqB, k_eqA, k_not, k_neg, k_conv, k_alloc, k_boxA, k_boxI, k_boxB, k_boxN, k_boxBs, k_ldR, k_ldA, k_ldI, k_ldB, k_stA, k_stI, k_stB, ldC_some, stC_some, k_mkfn, k_slc, k_slcA, k_ixA, k_ixBs, k_ixSl, k_fadr, k_fld, k_ext, k_len, k_app, k_mn, k_mx, k_nilck, k_build, k_bsl1, k_bsl2, b_add, b_sub, b_mul, b_eql, b_neq, b_lss, b_leq, b_gtr, b_geq, Dn.setLast, Dn.getLast, evalO, mapO, Dn.get, putE, keepE, TV.one, TV.isAgg, Dn.part, go_denK (c := l48_1) rfl, h2, g0, g1, lb, hix, f1, d1, la]
      rw [Bool.eq_iff_iff, beq_iff_eq, decide_eq_true_eq]; omega
    · rw [decide_eq_true_eq]
      refine ⟨fun h => ⟨h, fun x hx => ?_⟩, fun h => h.len⟩
      rw [List.drop_zero, List.any_eq_false] at h1
      have := h1 x hx
      simp [outside] at this
      omega

theorem l49_step {pg : Pg} (hF : Free pg) {X : List Obs} {g : Nat} (hm : Market X g) {us ls b : List Int} (har : arN X us ls) (hb : Bnd g b) {U L B : TV} (hU : SV U us) (hL : SV L ls) (hB : SV B b) {H : Heap} {i : Nat} (hi : i < X.length) (m : Int) :
    den pg l49_1 [(0, (elS true).lt true X), (1, U), (2, L), (3, B), (9, .i .i64 m), (10, .i .i64 (i : Int))] H =
    den pg l49_1 [(0, (elS true).lt true X), (1, U), (2, L), (3, B), (9, .i .i64 (if i = 0 then valI X us ls b i else min m (valI X us ls b i))), (10, .i .i64 ((i + 1 : Nat) : Int))] H := by
  have hn5 := hm.n5
  have hg3 := hm.g3
  have e1 : ((i : Int) < (X.length : Int)) := by omega
  have e2 : wrapR .i64 ((i : Int) + 1) = .i .i64 ((i : Int) + 1) := wrapR_i64 (by omega)
  have hlX := El.lt_len (E := elS true) true X
  obtain ⟨a1, a2, a3, a4⟩ := prices_ok hm hi
  obtain ⟨bo, a, c, hix, ha, hc⟩ := (elS_RV true true X).ix (pg := pg) (R := den pg) (getD_obs hi) H
  obtain ⟨f1, f2⟩ := k_fadrP (pg := pg) (R := den pg) bo a c ha.noagg hc.noagg H
  have d1 := k_ldV (pg := pg) (R := den pg) bo a ha.one H
  have d2 := k_ldV (pg := pg) (R := den pg) bo c hc.one H
  have g1 := getD_get (l := us) (i := i) (by rw [har.lu]; exact hi)
  have g2 := getD_get (l := ls) (i := i) (by rw [har.ll]; exact hi)
  obtain ⟨q1, hq1, hv1⟩ := ixI (pg := pg) (R := den pg) (hU.view H) g1
  obtain ⟨q2, hq2, hv2⟩ := ixI (pg := pg) (R := den pg) (hL.view H) g2
  have c46 := call46 hF ha hB (by rw [a1, hb.len]; exact Nat.le_refl _) (by omega) (fun x hx => by have := a3 x hx; omega) (fun x hx => by have := hb.r x hx; omega) H
  have c46' := call46 hF ha hc (by rw [a1, a2]; exact Nat.le_refl _) (by omega) (fun x hx => by have := a3 x hx; omega) (fun x hx => by have := a4 x hx; omega) H
  rw [cost_dot hi hi] at c46'
  obtain ⟨w1, w2, w3⟩ := val_fit hm (show arR X us ls from ⟨har.lu, har.ll, har.ru, har.rl⟩) hb hi
  generalize valI X us ls b i = vv at *
  generalize dot (X.getD i ([], [])).1 b = dd at *
  generalize costOf X i i = cc at *
  generalize us.getD i 0 = ui at *
  generalize ls.getD i 0 = li at *
  rw [l49_1, den_loop]
  by_cases h0 : i = 0
  · subst h0
    simp only [Int.natCast_zero] at *
    have e2' : wrapR .i64 1 = .i .i64 1 := wrapR_i64 (by omega)
    simp [l49_1, b49_0, go_nil, go_last, go_past, go_pastR, go_blkN, go_blkR, go_blkE, go_skip, go_exit, go_ret, go_scope, go_seq, go_reg, go_block, go_cond, cnd_b, go_opsN, go_ops, go_opsG, grd_b, grd_u, stp_some, fin_some, up_some, cont_some, k_call, k_mv, k_pick, k_bin, k_eqB, k_eqA, k_not, k_neg, k_conv, k_alloc, k_boxA, k_boxI, k_boxB, k_boxN, k_boxBs, k_ldR, k_ldA, k_ldI, k_ldB, k_stA, k_stI, k_stB, ldC_some, stC_some, k_mkfn, k_slc, k_slcA, k_ixA, k_ixBs, k_ixSl, k_fadr, k_fld, k_ext, k_len, k_app, k_mn, k_mx, k_nilck, k_build, k_bsl1, k_bsl2, b_add, b_sub, b_mul, b_eql, b_neq, b_lss, b_leq, b_gtr, b_geq, Dn.setLast, Dn.getLast, evalO, mapO, Dn.get, putE, keepE, TV.one, TV.isAgg, Dn.part, hlX, e1, e2', hi, hix, f1, f2, d1, d2, hq1, hv1, hq2, hv2, c46, c46', w1, w2, w3]
  · have h0' : ¬ (i : Int) = 0 := by omega
    by_cases hlt : vv < m
    · have hmin : min m vv = vv := by omega
      rw [hmin]
      simp [l49_1, b49_0, go_nil, go_last, go_past, go_pastR, go_blkN, go_blkR, go_blkE, go_skip, go_exit, go_ret, go_scope, go_seq, go_reg, go_block, go_cond, cnd_b, go_opsN, go_ops, go_opsG, grd_b, grd_u, stp_some, fin_some, up_some, cont_some, k_call, k_mv, k_pick, k_bin, k_eqB, k_eqA, k_not, k_neg, k_conv, k_alloc, k_boxA, k_boxI, k_boxB, k_boxN, k_boxBs, k_ldR, k_ldA, k_ldI, k_ldB, k_stA, k_stI, k_stB, ldC_some, stC_some, k_mkfn, k_slc, k_slcA, k_ixA, k_ixBs, k_ixSl, k_fadr, k_fld, k_ext, k_len, k_app, k_mn, k_mx, k_nilck, k_build, k_bsl1, k_bsl2, b_add, b_sub, b_mul, b_eql, b_neq, b_lss, b_leq, b_gtr, b_geq, Dn.setLast, Dn.getLast, evalO, mapO, Dn.get, putE, keepE, TV.one, TV.isAgg, Dn.part, hlX, e1, e2, hix, f1, f2, d1, d2, hq1, hv1, hq2, hv2, c46, c46', w1, w2, w3, h0, h0', hlt]
    · have hmin : min m vv = m := by omega
      rw [hmin]
      simp [l49_1, b49_0, go_nil, go_last, go_past, go_pastR, go_blkN, go_blkR, go_blkE, go_skip, go_exit, go_ret, go_scope, go_seq, go_reg, go_block, go_cond, cnd_b, go_opsN, go_ops, go_opsG, grd_b, grd_u, stp_some, fin_some, up_some, cont_some, k_call, k_mv, k_pick, k_bin, k_eqB, k_eqA, k_not, k_neg, k_conv, k_alloc, k_boxA, k_boxI, k_boxB, k_boxN, k_boxBs, k_ldR, k_ldA, k_ldI, k_ldB, k_stA, k_stI, k_stB, ldC_some, stC_some, k_mkfn, k_slc, k_slcA, k_ixA, k_ixBs, k_ixSl, k_fadr, k_fld, k_ext, k_len, k_app, k_mn, k_mx, k_nilck, k_build, k_bsl1, k_bsl2, b_add, b_sub, b_mul, b_eql, b_neq, b_lss, b_leq, b_gtr, b_geq, Dn.setLast, Dn.getLast, evalO, mapO, Dn.get, putE, keepE, TV.one, TV.isAgg, Dn.part, hlX, e1, e2, hix, f1, f2, d1, d2, hq1, hv1, hq2, hv2, c46, c46', w1, w2, w3, h0, h0', hlt]

theorem l49_all {pg : Pg} (hF : Free pg) {X : List Obs} {g : Nat} (hm : Market X g) {us ls b : List Int} (har : arN X us ls) (hb : Bnd g b) {U L B : TV} (hU : SV U us) (hL : SV L ls) (hB : SV B b) {H : Heap} : ∀ (d i : Nat) (m : Int), 1 ≤ i → i + d = X.length →
    ∃ e, den pg l49_1 [(0, (elS true).lt true X), (1, U), (2, L), (3, B), (9, .i .i64 m), (10, .i .i64 (i : Int))] H = some ⟨.exit 0, e, H⟩ ∧ Dn.get e 9 = some (.i .i64 (minL (((List.range X.length).drop i).map (valI X us ls b)) m))
  | 0, i, m, h1, h => by
    have e1 : ¬ ((i : Int) < (X.length : Int)) := by omega
    have hlX := El.lt_len (E := elS true) true X
    refine ⟨[(0, (elS true).lt true X), (1, U), (2, L), (3, B), (9, .i .i64 m), (10, .i .i64 (i : Int)), (15, .b false)], ?_, ?_⟩
    · rw [l49_1, den_loop]
      simp [b49_0, go_nil, go_last, go_past, go_pastR, go_blkN, go_blkR, go_blkE, go_skip, go_exit, go_ret, go_scope, go_seq, go_reg, go_block, go_cond, cnd_b, go_opsN, go_ops, go_opsG, grd_b, grd_u, stp_some, fin_some, up_some, cont_some, k_call, k_mv, k_pick, k_bin, k_eqB, k_eqA, k_not, k_neg, k_conv, k_alloc, k_boxA, k_boxI, k_boxB, k_boxN, k_boxBs, k_ldR, k_ldA, k_ldI, k_ldB, k_stA, k_stI, k_stB, ldC_some, stC_some, k_mkfn, k_slc, k_slcA, k_ixA, k_ixBs, k_ixSl, k_fadr, k_fld, k_ext, k_len, k_app, k_mn, k_mx, k_nilck, k_build, k_bsl1, k_bsl2, b_add, b_sub, b_mul, b_eql, b_neq, b_lss, b_leq, b_gtr, b_geq, Dn.setLast, Dn.getLast, evalO, mapO, Dn.get, putE, keepE, TV.one, TV.isAgg, Dn.part, hlX, e1]
    · rw [List.drop_eq_nil_of_le (by simp; omega)]; rfl
  | d + 1, i, m, h1, h => by
    have hi : i < X.length := by omega
    rw [l49_step hF hm har hb hU hL hB hi m, if_neg (by omega), range_drop hi, List.map_cons]
    exact l49_all hF hm har hb hU hL hB d (i + 1) _ (by omega) (by omega)

theorem fn49 {pg : Pg} (hF : Free pg) {X : List Obs} {g : Nat} (hm : Market X g) {us ls b : List Int} (har : arN X us ls) (hb : Bnd g b) {U L B : TV} (hU : SV U us) (hL : SV L ls) (hB : SV B b) :
    PFn pg 49 [(elS true).lt true X, U, L, B] (.i .i64 (least (vals X us ls b))) := by
  have hn1 := hm.n1
  have h0 := l49_step hF hm har hb hU hL hB (H := []) (i := 0) (by omega) 0
  obtain ⟨e, h1, h2⟩ := l49_all hF hm har hb hU hL hB (H := []) (X.length - 1) 1 (valI X us ls b 0) (by omega) (by omega)
  rw [if_pos rfl] at h0
  have h1 := h0.trans h1
  have hv : vals X us ls b = valI X us ls b 0 :: ((List.range X.length).drop 1).map (valI X us ls b) := by
    unfold vals
    conv => lhs; rw [← List.drop_zero (l := List.range X.length), range_drop (by omega), List.map_cons]
  have hl : least (vals X us ls b) = minL (((List.range X.length).drop 1).map (valI X us ls b)) (valI X us ls b 0) := by rw [hv]; rfl
  rw [← hl] at h2
  simp only [Int.natCast_zero] at h1
  refine .of1 (x := .ret) (e := [(8, .i .i64 (least (vals X us ls b)))]) (H' := []) (hF.S _ _ (by decide)) (d := d49) (by rw [hF.F]; rfl) rfl ?_ (.inl rfl) rfl (by simp [sn_i, sn_b, sn_nil, sn8_i, sn8_b, sn8_nil, sn7_i, sn7_b, sn_sl, sn8_sl, slB_some, sn_tup, sn_agg, sn8_agg, mapO, elems])
  generalize least (vals X us ls b) = w at *
  simp [d49, c49, zipE, go_nil, go_last, go_past, go_pastR, go_blkN, go_blkR, go_blkE, go_skip, go_exit, go_ret, go_scope, go_seq, go_reg, go_block, go_cond, cnd_b, go_opsN, go_ops, go_opsG, grd_b, grd_u, stp_some, fin_some, up_some, cont_some, k_call, k_mv, k_pick, k_bin, k_eqB, k_eqA, k_not, k_neg, k_conv, k_alloc, k_boxA, k_boxI, k_boxB, k_boxN, k_boxBs, k_ldR, k_ldA, k_ldI, k_ldB, k_stA, k_stI, k_stB, ldC_some, stC_some, k_mkfn, k_slc, k_slcA, k_ixA, k_ixBs, k_ixSl, k_fadr, k_fld, k_ext, k_len, k_app, k_mn, k_mx, k_nilck, k_build, k_bsl1, k_bsl2, b_add, b_sub, b_mul, b_eql, b_neq, b_lss, b_leq, b_gtr, b_geq, Dn.setLast, Dn.getLast, evalO, mapO, Dn.get, putE, keepE, TV.one, TV.isAgg, Dn.part, go_denK (c := l49_1) rfl, h1, h2]

end Go.Proofs.Tryd.Dn

/-
  PriceValues: the whole run answers true.
-/

namespace Go.Proofs.Tryd.Dn
open Go.Dn

/-- a bundle as the program holds it: given, or its own -/
def Bv (H : Heap) (B : TV) (b : List Int) : Prop := SV B b ∨ elI.Own H B b

theorem Bv.snap {H : Heap} {B : TV} {b : List Int} (h : Bv H B b) : ∃ B', Dn.snap .borrow H 9 B = some B' ∧ SV B' b := by
  rcases h with h | h
  · exact SV.snap h H 7
  · exact ⟨_, El.Own.snap h elI_flat, .lt true b⟩

theorem Bv.view {H H' : Heap} {B : TV} {b : List Int} (h : Bv H B b) (hf : ∀ j, j < H.length → H'[j]? = H[j]?) : elI.View H' B b := by
  rcases h with h | h
  · exact SV.view h H'
  · exact El.Own.view (El.Own.mono h fun id hid => hf id (El.Own.lt h id hid))

theorem facts15 {pg : Pg} (hF : Free pg) {X : List Obs} {g : Nat} (hm : Market X g) {us ls b : List Int} (hul : us.length ≤ 1000) (hll : ls.length ≤ 1000) (hbl : b.length ≤ 1000) :
    ∃ (r s : Bool) (v e : Int), (∀ H U L, SV U us → SV L ls → callRun pg (den pg) (.pu []) [.fn 43 [] [], (elS false).lt false X, U, L] H = some (.tup [.b r, .i .i64 0], H)) ∧
      (∀ H U L, SV U us → SV L ls → callRun pg (den pg) (.pu []) [.fn 44 [] [], (elS false).lt false X, U, L] H = some (.b r, H)) ∧
      (∀ H U L B, SV U us → SV L ls → Bv H B b → callRun pg (den pg) (.pu []) [.fn 45 [] [], (elS false).lt false X, U, L, B] H = some (.tup [.i .i64 v, .i .i64 e], H)) ∧
      (∀ H B, Bv H B b → callRun pg (den pg) (.pu []) [.fn 48 [] [], (elS false).lt false X, B] H = some (.b s, H)) ∧
      ((r && s) = false → v = 0 ∧ e = 1) ∧
      ((r && s) = true → e = 0 ∧ ∀ H U L B, SV U us → SV L ls → Bv H B b → callRun pg (den pg) (.pu []) [.fn 49 [] [], (elS false).lt false X, U, L, B] H = some (.i .i64 v, H)) := by
  obtain ⟨r, c43, h43⟩ := call43 hF hm hul hll
  obtain ⟨r2, c44, h44⟩ := call44 hF hm us ls
  have hrr : r2 = r := by rw [Bool.eq_iff_iff, h43, h44]
  subst hrr
  obtain ⟨s, _, h48⟩ := fn48 hF hm (SV.lt true b) hbl
  have c48 : ∀ H B, Bv H B b → callRun pg (den pg) (.pu []) [.fn 48 [] [], (elS false).lt false X, B] H = some (.b s, H) := fun H B hB => by
    obtain ⟨B', b1, b2⟩ := hB.snap
    obtain ⟨s', f48, h48'⟩ := fn48 hF hm b2 hbl
    have hss : s' = s := by rw [Bool.eq_iff_iff, h48, h48']
    subst hss
    exact PFn.call f48 (args := [(elS false).lt false X, B]) (by simp [snapArgs, snZ, b1])
  by_cases hok : arN X us ls ∧ Bnd g b
  · have e1 := h43.2 hok.1
    have e2 := h48.2 hok.2
    subst e1
    subst e2
    refine ⟨true, true, least (vals X us ls b), 0, c43, c44, fun H U L B hU hL hB => ?_, c48, fun h => (by cases h), fun _ => ⟨rfl, fun H U L B hU hL hB => ?_⟩⟩
    · obtain ⟨U', s1, s2⟩ := hU.snap H 7
      obtain ⟨L', t1, t2⟩ := hL.snap H 7
      obtain ⟨B', b1, b2⟩ := hB.snap
      exact PFn.call (fn45 hF hm hok.1 hok.2 s2 t2 b2) (args := [(elS false).lt false X, U, L, B]) (by simp [snapArgs, snZ, s1, t1, b1])
    · obtain ⟨U', s1, s2⟩ := hU.snap H 7
      obtain ⟨L', t1, t2⟩ := hL.snap H 7
      obtain ⟨B', b1, b2⟩ := hB.snap
      exact PFn.call (fn49 hF hm hok.1 hok.2 s2 t2 b2) (args := [(elS false).lt false X, U, L, B]) (by simp [snapArgs, snZ, s1, t1, b1])
  · have hrs : (r2 && s) = false := by
      rw [Bool.eq_false_iff]
      intro h
      rw [Bool.and_eq_true] at h
      exact hok ⟨h43.1 h.1, h48.1 h.2⟩
    refine ⟨r2, s, 0, 1, c43, c44, fun H U L B hU hL hB => ?_, c48, fun _ => ⟨rfl, rfl⟩, fun h => by rw [hrs] at h; cases h⟩
    obtain ⟨U', s1, s2⟩ := hU.snap H 7
    obtain ⟨L', t1, t2⟩ := hL.snap H 7
    obtain ⟨B', b1, b2⟩ := hB.snap
    exact PFn.call (fn45bad hF hm hul hll hbl hok s2 t2 b2) (args := [(elS false).lt false X, U, L, B]) (by simp [snapArgs, snZ, s1, t1, b1])

theorem l15_1_all {pg : Pg} {X : List Obs} {g : Nat} (hm : Market X g) {Y U L B I : TV} {b : List Int} {base : Nat} {H0 : Heap} (hB : ∀ H, (∀ j, j < base → H[j]? = H0[j]?) → elI.View H B b) : ∀ (d i : Nat) (R : TV) (m : List Int) (H : Heap), i + d = g → RowInv base H0 H R m → m.length = i →
    ∃ e R' H', den pg l15_1 [(7, (elS false).lt false X), (8, Y), (9, U), (10, L), (11, B), (12, I), (22, R), (23, .i .i64 (i : Int))] H = some ⟨.exit 2, e, H'⟩ ∧
      keepE [7, 8, 9, 10, 11, 12, 22] e = [(7, (elS false).lt false X), (8, Y), (9, U), (10, L), (11, B), (12, I), (22, R')] ∧ RowInv base H0 H' R' (m ++ ((List.range g).drop i).map (amt b 0))
  | 0, i, R, m, H, h, hr, hml => by
    have hn1 := hm.n1
    have e1 : ¬ ((i : Int) < (g : Int)) := by omega
    obtain ⟨a1, _, _, _⟩ := prices_ok hm (i := 0) (by omega)
    obtain ⟨bo, a, c, hix, ha, hc⟩ := (elS_RV false false X).ix (pg := pg) (R := den pg) (getD_obs (i := 0) (by omega)) H
    simp only [Int.natCast_zero] at hix
    obtain ⟨f1, _⟩ := k_fadrP (pg := pg) (R := den pg) bo a c ha.noagg hc.noagg H
    have d1 := k_ldV (pg := pg) (R := den pg) bo a ha.one H
    have la := (ha.view H).lenK H
    rw [a1] at la
    refine ⟨[(7, (elS false).lt false X), (8, Y), (9, U), (10, L), (11, B), (12, I), (22, R), (23, .i .i64 (i : Int)), (123, .b false)], R, H, ?_, rfl, ?_⟩
    · rw [l15_1, den_loop]
      simp [b15_0, go_nil, go_last, go_past, go_pastR, go_blkN, go_blkR, go_blkE, go_skip, go_exit, go_ret, go_scope, go_seq, go_reg, go_block, go_cond, cnd_b, go_opsN, go_ops, go_opsG, grd_b, grd_u, stp_some, fin_some, up_some, cont_some, k_call, k_mv, k_pick, k_bin, k_eqB, k_eqA, k_not, k_neg, k_conv, k_alloc, k_boxA, k_boxI, k_boxB, k_boxN, k_boxBs, k_ldR, k_ldA, k_ldI, k_ldB, k_stA, k_stI, k_stB, ldC_some, stC_some, k_mkfn, k_slc, k_slcA, k_ixA, k_ixBs, k_ixSl, k_fadr, k_fld, k_ext, k_len, k_app, k_mn, k_mx, k_nilck, k_build, k_bsl1, k_bsl2, b_add, b_sub, b_mul, b_eql, b_neq, b_lss, b_leq, b_gtr, b_geq, Dn.setLast, Dn.getLast, evalO, mapO, Dn.get, putE, keepE, TV.one, TV.isAgg, Dn.part, hix, f1, d1, la, e1]
    · rw [List.drop_eq_nil_of_le (by simp; omega)]; simpa using hr
  | d + 1, i, R, m, H, h, hr, hml => by
    have hn1 := hm.n1
    have hg3 := hm.g3
    have hi : i < g := by omega
    have e1 : ((i : Int) < (g : Int)) := by omega
    have e2 : wrapR .i64 ((i : Int) + 1) = .i .i64 ((i : Int) + 1) := wrapR_i64 (by omega)
    obtain ⟨a1, _, _, _⟩ := prices_ok hm (i := 0) (by omega)
    obtain ⟨bo, a, c, hix, ha, hc⟩ := (elS_RV false false X).ix (pg := pg) (R := den pg) (getD_obs (i := 0) (by omega)) H
    simp only [Int.natCast_zero] at hix
    obtain ⟨f1, _⟩ := k_fadrP (pg := pg) (R := den pg) bo a c ha.noagg hc.noagg H
    have d1 := k_ldV (pg := pg) (R := den pg) bo a ha.one H
    have la := (ha.view H).lenK H
    rw [a1] at la
    have hBv := hB H hr.old
    have lS := hBv.lenK
    obtain ⟨R', H', h1, h2⟩ := hr.push (amt b 0 i) (by omega)
    obtain ⟨e, R2, H2, h3, h4, h5⟩ := l15_1_all (pg := pg) hm (Y := Y) (U := U) (L := L) (I := I) hB d (i + 1) R' _ H' (by omega) h2 (by simp; omega)
    refine ⟨e, R2, H2, Eq.trans ?_ h3, h4, ?_⟩
    · by_cases hil : i < b.length
      · have e3 : ((i : Int) < (b.length : Int)) := by omega
        have hr := rem21_range (b.getD i 0)
        obtain ⟨p, hp, hv⟩ := ixI (pg := pg) (R := den pg) hBv (getD_get hil)
        have eA : amt b 0 i = rem21 (b.getD i 0) := by unfold amt; rw [if_pos hil]
        rw [eA] at h1
        have e4 : wrapR .u64 (b.getD i 0) = .i .u64 (IntKind.wrap .u64 (b.getD i 0)) := rfl
        have e5 : binI .rem (.i .u64 (IntKind.wrap .u64 (b.getD i 0))) (.i .u64 21) = some (.i .u64 (rem21 (b.getD i 0))) := by rw [b_rem, if_neg (by decide)]; rfl
        have e6 : wrapR .i64 (rem21 (b.getD i 0)) = .i .i64 (rem21 (b.getD i 0)) := wrapR_i64 (by omega)
        generalize rem21 (b.getD i 0) = rr at *
        generalize IntKind.wrap .u64 (b.getD i 0) = ww at *
        generalize b.getD i 0 = vv at *
        rw [l15_1, den_loop]
        simp [l15_1, b15_0, go_nil, go_last, go_past, go_pastR, go_blkN, go_blkR, go_blkE, go_skip, go_exit, go_ret, go_scope, go_seq, go_reg, go_block, go_cond, cnd_b, go_opsN, go_ops, go_opsG, grd_b, grd_u, stp_some, fin_some, up_some, cont_some, k_call, k_mv, k_pick, k_bin, k_eqB, k_eqA, k_not, k_neg, k_conv, k_alloc, k_boxA, k_boxI, k_boxB, k_boxN, k_boxBs, k_ldR, k_ldA, k_ldI, k_ldB, k_stA, k_stI, k_stB, ldC_some, stC_some, k_mkfn, k_slc, k_slcA, k_ixA, k_ixBs, k_ixSl, k_fadr, k_fld, k_ext, k_len, k_app, k_mn, k_mx, k_nilck, k_build, k_bsl1, k_bsl2, b_add, b_sub, b_mul, b_eql, b_neq, b_lss, b_leq, b_gtr, b_geq, Dn.setLast, Dn.getLast, evalO, mapO, Dn.get, putE, keepE, TV.one, TV.isAgg, Dn.part, hix, f1, d1, la, e1, e2, lS, e3, hp, hv, e4, e5, e6, h1]
      · have e3 : ¬ ((i : Int) < (b.length : Int)) := by omega
        have eA : amt b 0 i = 0 := by unfold amt; rw [if_neg hil]
        rw [eA] at h1
        rw [l15_1, den_loop]
        simp [l15_1, b15_0, go_nil, go_last, go_past, go_pastR, go_blkN, go_blkR, go_blkE, go_skip, go_exit, go_ret, go_scope, go_seq, go_reg, go_block, go_cond, cnd_b, go_opsN, go_ops, go_opsG, grd_b, grd_u, stp_some, fin_some, up_some, cont_some, k_call, k_mv, k_pick, k_bin, k_eqB, k_eqA, k_not, k_neg, k_conv, k_alloc, k_boxA, k_boxI, k_boxB, k_boxN, k_boxBs, k_ldR, k_ldA, k_ldI, k_ldB, k_stA, k_stI, k_stB, ldC_some, stC_some, k_mkfn, k_slc, k_slcA, k_ixA, k_ixBs, k_ixSl, k_fadr, k_fld, k_ext, k_len, k_app, k_mn, k_mx, k_nilck, k_build, k_bsl1, k_bsl2, b_add, b_sub, b_mul, b_eql, b_neq, b_lss, b_leq, b_gtr, b_geq, Dn.setLast, Dn.getLast, evalO, mapO, Dn.get, putE, keepE, TV.one, TV.isAgg, Dn.part, hix, f1, d1, la, e1, e2, lS, e3, h1]
    · rw [range_drop hi, List.map_cons]
      simpa [List.append_assoc] using h5

theorem l15_3_r0 {pg : Pg} (hF : Free pg) {X : List Obs} {g : Nat} (hm : Market X g) {us ls b : List Int} (hul : us.length ≤ 1000) (hll : ls.length ≤ 1000) (hbl : b.length ≤ 1000) {U L B w1 w2 : TV} {n : Bool} (hU : SV U us) (hL : SV L ls) {H : Heap} (hB : Bv H B b)
    (c35 : ∀ H, callRun pg (den pg) (.pu []) [.fn 35 [] [], (elS false).lt false X] H = some (.tup [w1, w2, .b n, .i .i64 0], H))
    (cN : n = true → ∀ H, callRun pg (den pg) (.pu []) [.fn 44 [] [], (elS false).lt false X, w1, w2] H = some (.b true, H)) :
    den pg l15_3 [(7, (elS false).lt false X), (8, (elS false).lt false X), (9, U), (10, L), (11, B), (12, .i .i64 0)] H =
    den pg l15_3 [(7, (elS false).lt false X), (8, (elS false).lt false X), (9, w1), (10, w2), (11, B), (12, .i .i64 1)] H := by
  obtain ⟨r, s, v, e, c43, c44, c45, c48, hbad, hgood⟩ := facts15 hF hm hul hll hbl
  have c43 := c43 H U L hU hL
  have c44 := c44 H U L hU hL
  have c45 := c45 H U L B hU hL hB
  have c48 := c48 H B hB
  have e2 : wrapR .i64 1 = .i .i64 1 := wrapR_i64 (by omega)
  have c35 := c35 H
  rw [l15_3, den_loop]
  by_cases hrs : (r && s) = true
  · obtain ⟨he, c49⟩ := hgood hrs
    have c49 := c49 H U L B hU hL hB
    rw [Bool.and_eq_true] at hrs
    obtain ⟨rfl, rfl⟩ := hrs
    subst he
    cases n with
    | true =>
      have cN := cN rfl H
      simp [l15_3, b15_2, negb, go_nil, go_last, go_past, go_pastR, go_blkN, go_blkR, go_blkE, go_skip, go_exit, go_ret, go_scope, go_seq, go_reg, go_block, go_cond, cnd_b, go_opsN, go_ops, go_opsG, grd_b, grd_u, stp_some, fin_some, up_some, cont_some, k_call, k_mv, k_pick, k_bin, k_eqB, k_eqA, k_not, k_neg, k_conv, k_alloc, k_boxA, k_boxI, k_boxB, k_boxN, k_boxBs, k_ldR, k_ldA, k_ldI, k_ldB, k_stA, k_stI, k_stB, ldC_some, stC_some, k_mkfn, k_slc, k_slcA, k_ixA, k_ixBs, k_ixSl, k_fadr, k_fld, k_ext, k_len, k_app, k_mn, k_mx, k_nilck, k_build, k_bsl1, k_bsl2, b_add, b_sub, b_mul, b_eql, b_neq, b_lss, b_leq, b_gtr, b_geq, Dn.setLast, Dn.getLast, evalO, mapO, Dn.get, putE, keepE, TV.one, TV.isAgg, Dn.part, c43, c44, c45, c48, c49, c35, cN, e2]
    | false => simp [l15_3, b15_2, negb, go_nil, go_last, go_past, go_pastR, go_blkN, go_blkR, go_blkE, go_skip, go_exit, go_ret, go_scope, go_seq, go_reg, go_block, go_cond, cnd_b, go_opsN, go_ops, go_opsG, grd_b, grd_u, stp_some, fin_some, up_some, cont_some, k_call, k_mv, k_pick, k_bin, k_eqB, k_eqA, k_not, k_neg, k_conv, k_alloc, k_boxA, k_boxI, k_boxB, k_boxN, k_boxBs, k_ldR, k_ldA, k_ldI, k_ldB, k_stA, k_stI, k_stB, ldC_some, stC_some, k_mkfn, k_slc, k_slcA, k_ixA, k_ixBs, k_ixSl, k_fadr, k_fld, k_ext, k_len, k_app, k_mn, k_mx, k_nilck, k_build, k_bsl1, k_bsl2, b_add, b_sub, b_mul, b_eql, b_neq, b_lss, b_leq, b_gtr, b_geq, Dn.setLast, Dn.getLast, evalO, mapO, Dn.get, putE, keepE, TV.one, TV.isAgg, Dn.part, c43, c44, c45, c48, c49, c35, e2]
  · rw [Bool.not_eq_true] at hrs
    obtain ⟨rfl, rfl⟩ := hbad hrs
    cases n with
    | true =>
      have cN := cN rfl H
      cases r with
      | false => simp [l15_3, b15_2, negb, go_nil, go_last, go_past, go_pastR, go_blkN, go_blkR, go_blkE, go_skip, go_exit, go_ret, go_scope, go_seq, go_reg, go_block, go_cond, cnd_b, go_opsN, go_ops, go_opsG, grd_b, grd_u, stp_some, fin_some, up_some, cont_some, k_call, k_mv, k_pick, k_bin, k_eqB, k_eqA, k_not, k_neg, k_conv, k_alloc, k_boxA, k_boxI, k_boxB, k_boxN, k_boxBs, k_ldR, k_ldA, k_ldI, k_ldB, k_stA, k_stI, k_stB, ldC_some, stC_some, k_mkfn, k_slc, k_slcA, k_ixA, k_ixBs, k_ixSl, k_fadr, k_fld, k_ext, k_len, k_app, k_mn, k_mx, k_nilck, k_build, k_bsl1, k_bsl2, b_add, b_sub, b_mul, b_eql, b_neq, b_lss, b_leq, b_gtr, b_geq, Dn.setLast, Dn.getLast, evalO, mapO, Dn.get, putE, keepE, TV.one, TV.isAgg, Dn.part, c43, c44, c45, c48, c35, cN, e2]
      | true =>
        have hs : s = false := hrs
        subst hs
        simp [l15_3, b15_2, negb, go_nil, go_last, go_past, go_pastR, go_blkN, go_blkR, go_blkE, go_skip, go_exit, go_ret, go_scope, go_seq, go_reg, go_block, go_cond, cnd_b, go_opsN, go_ops, go_opsG, grd_b, grd_u, stp_some, fin_some, up_some, cont_some, k_call, k_mv, k_pick, k_bin, k_eqB, k_eqA, k_not, k_neg, k_conv, k_alloc, k_boxA, k_boxI, k_boxB, k_boxN, k_boxBs, k_ldR, k_ldA, k_ldI, k_ldB, k_stA, k_stI, k_stB, ldC_some, stC_some, k_mkfn, k_slc, k_slcA, k_ixA, k_ixBs, k_ixSl, k_fadr, k_fld, k_ext, k_len, k_app, k_mn, k_mx, k_nilck, k_build, k_bsl1, k_bsl2, b_add, b_sub, b_mul, b_eql, b_neq, b_lss, b_leq, b_gtr, b_geq, Dn.setLast, Dn.getLast, evalO, mapO, Dn.get, putE, keepE, TV.one, TV.isAgg, Dn.part, c43, c44, c45, c48, c35, cN, e2]
    | false =>
      cases r with
      | false => simp [l15_3, b15_2, negb, go_nil, go_last, go_past, go_pastR, go_blkN, go_blkR, go_blkE, go_skip, go_exit, go_ret, go_scope, go_seq, go_reg, go_block, go_cond, cnd_b, go_opsN, go_ops, go_opsG, grd_b, grd_u, stp_some, fin_some, up_some, cont_some, k_call, k_mv, k_pick, k_bin, k_eqB, k_eqA, k_not, k_neg, k_conv, k_alloc, k_boxA, k_boxI, k_boxB, k_boxN, k_boxBs, k_ldR, k_ldA, k_ldI, k_ldB, k_stA, k_stI, k_stB, ldC_some, stC_some, k_mkfn, k_slc, k_slcA, k_ixA, k_ixBs, k_ixSl, k_fadr, k_fld, k_ext, k_len, k_app, k_mn, k_mx, k_nilck, k_build, k_bsl1, k_bsl2, b_add, b_sub, b_mul, b_eql, b_neq, b_lss, b_leq, b_gtr, b_geq, Dn.setLast, Dn.getLast, evalO, mapO, Dn.get, putE, keepE, TV.one, TV.isAgg, Dn.part, c43, c44, c45, c48, c35, e2]
      | true =>
        have hs : s = false := hrs
        subst hs
        simp [l15_3, b15_2, negb, go_nil, go_last, go_past, go_pastR, go_blkN, go_blkR, go_blkE, go_skip, go_exit, go_ret, go_scope, go_seq, go_reg, go_block, go_cond, cnd_b, go_opsN, go_ops, go_opsG, grd_b, grd_u, stp_some, fin_some, up_some, cont_some, k_call, k_mv, k_pick, k_bin, k_eqB, k_eqA, k_not, k_neg, k_conv, k_alloc, k_boxA, k_boxI, k_boxB, k_boxN, k_boxBs, k_ldR, k_ldA, k_ldI, k_ldB, k_stA, k_stI, k_stB, ldC_some, stC_some, k_mkfn, k_slc, k_slcA, k_ixA, k_ixBs, k_ixSl, k_fadr, k_fld, k_ext, k_len, k_app, k_mn, k_mx, k_nilck, k_build, k_bsl1, k_bsl2, b_add, b_sub, b_mul, b_eql, b_neq, b_lss, b_leq, b_gtr, b_geq, Dn.setLast, Dn.getLast, evalO, mapO, Dn.get, putE, keepE, TV.one, TV.isAgg, Dn.part, c43, c44, c45, c48, c35, e2]

theorem l15_3_rN {pg : Pg} (hF : Free pg) {X : List Obs} {g : Nat} (hm : Market X g) {us ls b : List Int} (hul : us.length ≤ 1000) (hll : ls.length ≤ 1000) (hbl : b.length ≤ 1000) {U L B : TV} (hU : SV U us) (hL : SV L ls) {H : Heap} (hB : Bv H B b) {i : Nat} (h0 : i ≠ 0) (h3 : i < 3) :
    ∃ R H', den pg l15_3 [(7, (elS false).lt false X), (8, (elS false).lt false X), (9, U), (10, L), (11, B), (12, .i .i64 (i : Int))] H =
      den pg l15_3 [(7, (elS false).lt false X), (8, (elS false).lt false X), (9, U), (10, L), (11, R), (12, .i .i64 ((i + 1 : Nat) : Int))] H' ∧ Bv H' R (amts b 0 g) := by
  obtain ⟨r, s, v, e, c43, c44, c45, c48, hbad, hgood⟩ := facts15 hF hm hul hll hbl
  have c43 := c43 H U L hU hL
  have c44 := c44 H U L hU hL
  have c45 := c45 H U L B hU hL hB
  have c48 := c48 H B hB
  have e1 : ((i : Int) < 3) := by omega
  have e0 : ¬ (i : Int) = 0 := by omega
  have e2 : wrapR .i64 ((i : Int) + 1) = .i .i64 ((i : Int) + 1) := wrapR_i64 (by omega)
  obtain ⟨e', R, H1, k1, k2, k3⟩ := l15_1_all (pg := pg) hm (Y := (elS false).lt false X) (U := U) (L := L) (B := B) (I := .i .i64 (i : Int)) (b := b) (base := H.length) (H0 := H) (fun H' hH => hB.view hH) g 0 .nilsl [] H (by omega) (RowInv.nil H) rfl
  rw [List.nil_append, List.drop_zero, show (List.range g).map (amt b 0) = amts b 0 g from rfl] at k3
  have g7 := keep_get k2 (s := 7) (by simp) rfl
  have g8 := keep_get k2 (s := 8) (by simp) rfl
  have g9 := keep_get k2 (s := 9) (by simp) rfl
  have g10 := keep_get k2 (s := 10) (by simp) rfl
  have g12 := keep_get k2 (s := 12) (by simp) rfl
  have g22 := keep_get k2 (s := 22) (by simp) rfl
  simp only [Int.natCast_zero] at k1
  refine ⟨R, H1, ?_, .inr k3.own⟩
  rw [l15_3, den_loop]
  by_cases hrs : (r && s) = true
  · obtain ⟨he, c49⟩ := hgood hrs
    have c49 := c49 H U L B hU hL hB
    rw [Bool.and_eq_true] at hrs
    obtain ⟨rfl, rfl⟩ := hrs
    subst he
    simp [l15_3, b15_2, negb, go_nil, go_last, go_past, go_pastR, go_blkN, go_blkR, go_blkE, go_skip, go_exit, go_ret, go_scope, go_seq, go_reg, go_block, go_cond, cnd_b, go_opsN, go_ops, go_opsG, grd_b, grd_u, stp_some, fin_some, up_some, cont_some, k_call, k_mv, k_pick, k_bin, k_eqB, k_eqA, k_not, k_neg, k_conv, k_alloc, k_boxA, k_boxI, k_boxB, k_boxN, k_boxBs, k_ldR, k_ldA, k_ldI, k_ldB, k_stA, k_stI, k_stB, ldC_some, stC_some, k_mkfn, k_slc, k_slcA, k_ixA, k_ixBs, k_ixSl, k_fadr, k_fld, k_ext, k_len, k_app, k_mn, k_mx, k_nilck, k_build, k_bsl1, k_bsl2, b_add, b_sub, b_mul, b_eql, b_neq, b_lss, b_leq, b_gtr, b_geq, Dn.setLast, Dn.getLast, evalO, mapO, Dn.get, putE, keepE, TV.one, TV.isAgg, Dn.part, c43, c44, c45, c48, c49, h0, e0, e1, e2, go_denK (c := l15_1) rfl, k1, g7, g8, g9, g10, g12, g22]
  · rw [Bool.not_eq_true] at hrs
    obtain ⟨rfl, rfl⟩ := hbad hrs
    cases r with
    | false => simp [l15_3, b15_2, negb, go_nil, go_last, go_past, go_pastR, go_blkN, go_blkR, go_blkE, go_skip, go_exit, go_ret, go_scope, go_seq, go_reg, go_block, go_cond, cnd_b, go_opsN, go_ops, go_opsG, grd_b, grd_u, stp_some, fin_some, up_some, cont_some, k_call, k_mv, k_pick, k_bin, k_eqB, k_eqA, k_not, k_neg, k_conv, k_alloc, k_boxA, k_boxI, k_boxB, k_boxN, k_boxBs, k_ldR, k_ldA, k_ldI, k_ldB, k_stA, k_stI, k_stB, ldC_some, stC_some, k_mkfn, k_slc, k_slcA, k_ixA, k_ixBs, k_ixSl, k_fadr, k_fld, k_ext, k_len, k_app, k_mn, k_mx, k_nilck, k_build, k_bsl1, k_bsl2, b_add, b_sub, b_mul, b_eql, b_neq, b_lss, b_leq, b_gtr, b_geq, Dn.setLast, Dn.getLast, evalO, mapO, Dn.get, putE, keepE, TV.one, TV.isAgg, Dn.part, c43, c44, c45, c48, h0, e0, e1, e2, go_denK (c := l15_1) rfl, k1, g7, g8, g9, g10, g12, g22]
    | true =>
      have hs : s = false := hrs
      subst hs
      simp [l15_3, b15_2, negb, go_nil, go_last, go_past, go_pastR, go_blkN, go_blkR, go_blkE, go_skip, go_exit, go_ret, go_scope, go_seq, go_reg, go_block, go_cond, cnd_b, go_opsN, go_ops, go_opsG, grd_b, grd_u, stp_some, fin_some, up_some, cont_some, k_call, k_mv, k_pick, k_bin, k_eqB, k_eqA, k_not, k_neg, k_conv, k_alloc, k_boxA, k_boxI, k_boxB, k_boxN, k_boxBs, k_ldR, k_ldA, k_ldI, k_ldB, k_stA, k_stI, k_stB, ldC_some, stC_some, k_mkfn, k_slc, k_slcA, k_ixA, k_ixBs, k_ixSl, k_fadr, k_fld, k_ext, k_len, k_app, k_mn, k_mx, k_nilck, k_build, k_bsl1, k_bsl2, b_add, b_sub, b_mul, b_eql, b_neq, b_lss, b_leq, b_gtr, b_geq, Dn.setLast, Dn.getLast, evalO, mapO, Dn.get, putE, keepE, TV.one, TV.isAgg, Dn.part, c43, c44, c45, c48, h0, e0, e1, e2, go_denK (c := l15_1) rfl, k1, g7, g8, g9, g10, g12, g22]

theorem run15 {pg : Pg} (hF : Free pg) (h24 : PFn pg 24 [] (.b true)) {T A B C : TV} {l : List Obs} {us ls b : List Int} (hT : Rws T l) (hl : l.length ≤ 9223372036854775807) (n : Int) (hA : SV A us) (hB : SV B ls) (hC : SV C b) : ∃ H, bodyRun pg (den pg) 15 [T, .i .i64 n, .agg [A, B, C]] [] = some (.b true, H) := by
  obtain ⟨X, g, hm, c17⟩ := call17 hF hT hl n
  have hn5 := hm.n5
  have hn1 := hm.n1
  have hg3 := hm.g3
  have c18 := call18m hF hm
  have c24 := fun H => PFn.call h24 (args := []) (ks := []) (fs := []) (cs := []) (H := H) (by simp [snapArgs])
  obtain ⟨H0, hH0⟩ : ∃ H0 : Heap, H0 = [.cells [A, B, C] true] := ⟨_, rfl⟩
  have bx : dkc pg (den pg) (.box true) [.agg [A, B, C]] [] = some (.ref 0 0, H0) := by
    rw [k_boxA _ _ (by simp [hA.one, hB.one, hC.one]), hH0]; rfl
  have d0 : dkc pg (den pg) (.ld 1 false) [.ref 0 0] H0 = some (A, H0) := by rw [k_ldR, hH0]; simp [ldC_some, Dn.part, hA.noagg, up]
  have d1 : dkc pg (den pg) (.ld 1 false) [.ref 0 1] H0 = some (B, H0) := by rw [k_ldR, hH0]; simp [ldC_some, Dn.part, hB.noagg, up]
  have d2 : dkc pg (den pg) (.ld 1 false) [.ref 0 2] H0 = some (C, H0) := by rw [k_ldR, hH0]; simp [ldC_some, Dn.part, hC.noagg, up]
  have c47 := fun H => call47 hF hA (n := 8) (by omega) H
  have c47' := fun H => call47 hF hB (n := 8) (by omega) H
  have c29 := fun H => call29 hF hC (n := 4) (by omega) H
  simp only [Int.cast_ofNat_Int] at c47 c47' c29
  have hb0 : Bv H0 (elI.lt false (b.take 4)) (b.take 4) := .inl (.lt false _)
  obtain ⟨w1, w2, nb, xs, ys, c35, cN, hw1, hw2, hx, hy⟩ : ∃ (w1 w2 : TV) (nb : Bool) (xs ys : List Int), (∀ H, callRun pg (den pg) (.pu []) [.fn 35 [] [], (elS false).lt false X] H = some (.tup [w1, w2, .b nb, .i .i64 0], H)) ∧ (nb = true → ∀ H, callRun pg (den pg) (.pu []) [.fn 44 [] [], (elS false).lt false X, w1, w2] H = some (.b true, H)) ∧ SV w1 xs ∧ SV w2 ys ∧ xs.length ≤ 1000 ∧ ys.length ≤ 1000 := by
    rcases call35 hF hm with ⟨hring, c35⟩ | ⟨hno, u, v, hI, c35⟩
    · exact ⟨_, _, false, [], [], c35, fun h => (by cases h), .inl ⟨rfl, rfl⟩, .inl ⟨rfl, rfl⟩, by simp, by simp⟩
    · obtain ⟨r2, c44, e2⟩ := call44 hF hm (firstN u X.length) (firstN v X.length)
      have hr2 := e2.2 (hI.ar hm)
      subst hr2
      exact ⟨_, _, true, _, _, c35, fun _ H => c44 H _ _ (.lt false _) (.lt false _), .lt false _, .lt false _, by rw [firstN_len]; omega, by rw [firstN_len]; omega⟩
  have s0 := l15_3_r0 hF hm (us := us.take 8) (ls := ls.take 8) (b := b.take 4) (by simp; omega) (by simp; omega) (by simp; omega) (.lt false _) (.lt false _) hb0 c35 cN
  obtain ⟨R1, H1, s1, hb1⟩ := l15_3_rN hF hm hx hy (b := b.take 4) (by simp; omega) hw1 hw2 hb0 (i := 1) (by omega) (by omega)
  obtain ⟨R2, H2, s2, hb2⟩ := l15_3_rN hF hm hx hy (b := amts (b.take 4) 0 g) (by simp [amts]; omega) hw1 hw2 hb1 (i := 2) (by omega) (by omega)
  have s3 : ∃ e, den pg l15_3 [(7, (elS false).lt false X), (8, (elS false).lt false X), (9, w1), (10, w2), (11, R2), (12, .i .i64 3)] H2 = some ⟨.exit 0, e, H2⟩ := by
    refine ⟨[(7, (elS false).lt false X), (8, (elS false).lt false X), (9, w1), (10, w2), (11, R2), (12, .i .i64 3), (40, .b false)], ?_⟩
    rw [l15_3, den_loop]
    simp [b15_2, go_nil, go_last, go_past, go_pastR, go_blkN, go_blkR, go_blkE, go_skip, go_exit, go_ret, go_scope, go_seq, go_reg, go_block, go_cond, cnd_b, go_opsN, go_ops, go_opsG, grd_b, grd_u, stp_some, fin_some, up_some, cont_some, k_call, k_mv, k_pick, k_bin, k_eqB, k_eqA, k_not, k_neg, k_conv, k_alloc, k_boxA, k_boxI, k_boxB, k_boxN, k_boxBs, k_ldR, k_ldA, k_ldI, k_ldB, k_stA, k_stI, k_stB, ldC_some, stC_some, k_mkfn, k_slc, k_slcA, k_ixA, k_ixBs, k_ixSl, k_fadr, k_fld, k_ext, k_len, k_app, k_mn, k_mx, k_nilck, k_build, k_bsl1, k_bsl2, b_add, b_sub, b_mul, b_eql, b_neq, b_lss, b_leq, b_gtr, b_geq, Dn.setLast, Dn.getLast, evalO, mapO, Dn.get, putE, keepE, TV.one, TV.isAgg, Dn.part]
  obtain ⟨e, s3⟩ := s3
  have hst := s0.trans (s1.trans (s2.trans s3))
  refine ⟨H2, body_of (x := .ret) (e := [(6, .b true)]) (d := d15) (by rw [hF.F]; rfl) rfl ?_ (.inl rfl) rfl⟩
  generalize elI.lt false (us.take 8) = a1 at *
  generalize elI.lt false (ls.take 8) = a2 at *
  generalize elI.lt false (b.take 4) = a3 at *
  simp [d15, c15, negb, zipE, go_nil, go_last, go_past, go_pastR, go_blkN, go_blkR, go_blkE, go_skip, go_exit, go_ret, go_scope, go_seq, go_reg, go_block, go_cond, cnd_b, go_opsN, go_ops, go_opsG, grd_b, grd_u, stp_some, fin_some, up_some, cont_some, k_call, k_mv, k_pick, k_bin, k_eqB, k_eqA, k_not, k_neg, k_conv, k_alloc, k_boxA, k_boxI, k_boxB, k_boxN, k_boxBs, k_ldR, k_ldA, k_ldI, k_ldB, k_stA, k_stI, k_stB, ldC_some, stC_some, k_mkfn, k_slc, k_slcA, k_ixA, k_ixBs, k_ixSl, k_fadr, k_fld, k_ext, k_len, k_app, k_mn, k_mx, k_nilck, k_build, k_bsl1, k_bsl2, b_add, b_sub, b_mul, b_eql, b_neq, b_lss, b_leq, b_gtr, b_geq, Dn.setLast, Dn.getLast, evalO, mapO, Dn.get, putE, keepE, TV.one, TV.isAgg, Dn.part, bx, d0, d1, d2, c17, c18, c47, c47', c29, go_denK (c := l15_3) rfl, hst, c24]

end Go.Proofs.Tryd.Dn

