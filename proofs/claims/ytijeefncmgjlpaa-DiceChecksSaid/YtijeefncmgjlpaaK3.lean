/-
  Dice: rows that are no dice: every function's answer; rows copied.
-/
import Derived.Test.YtijeefncmgjlpaaR7
set_option linter.unusedSimpArgs false
set_option linter.unusedVariables false

set_option maxHeartbeats 1000000
namespace Go.Proofs.Try.Dn
open Go.Dn

section
variable {pg : Pg} (hF : Free pg) {T : TV} {ls : List (List Int)} (hT : SSV T ls) (hl : ls.length ≤ 1000000) (hL : ∀ x ∈ ls, x.length ≤ 1000000) (h0 : chkD ls ≠ 0)
include hF hT hl hL h0

theorem fn43_bad : PFn pg 43 [T] (.tup [.nilsl, .i .i64 (chkD ls)]) := by
  have c55 := call55 (pg := pg) hF hT hl hL []
  refine .of2 (x := .ret) (e := [(2, .nilsl), (3, .i .i64 (chkD ls))]) (H' := []) (hF.S _ _) (d := d43) (by rw [hF.F]; rfl) rfl ?_ (.inl rfl) rfl (by simp) (by simp [mapO, sn_i, sn_b, sn_nil, sn8_i, sn8_b, sn8_nil, sn7_i, sn7_b, sn_sl, sn8_sl, slB_some, sn_tup, sn_agg, sn8_agg, mapO, elems])
  generalize chkD ls = C at *
  simp (disch := omega) [d43, c43, zipE, go_nil, go_last, go_past, go_pastR, go_blkN, go_blkR, go_blkE, go_skip, go_exit, go_ret, go_scope, go_seq, go_reg, go_regd, go_opdN, go_opd, go_opdG, grdd_b, grdd_u, stpd_some, find_some, go_block, go_cond, cnd_b, go_opsN, go_ops, go_opsG, grd_b, grd_u, stp_some, fin_some, up_some, cont_some, k_call, k_mv, k_pick, k_bin, k_eqB, k_eqA, k_not, k_neg, k_conv, k_alloc, k_boxA, k_boxI, k_boxB, k_boxN, k_boxBs, k_ldR, k_ldA, k_ldI, k_ldB, k_stA, k_stI, k_stB, ldC_some, stC_some, k_mkfn, k_slc, k_slcA, k_ixA, k_ixBs, k_ixSl, k_fadr, k_fld, k_ext, k_len, k_app, k_mn, k_mx, k_nilck, k_build, k_bsl1, k_bsl2, b_add, b_sub, b_mul, b_eql, b_neq, b_lss, b_leq, b_gtr, b_geq, Dn.setLast, Dn.getLast, evalO, mapO, Dn.get, putE, keepE_nil, keepE_cons, kp_some, kp_none, TV.one, TV.isAgg, Dn.part, k_boxR, negb, at0, at1, at2, at3, at4, dT, dF, wrapR_i64, Option.bind_some, Option.map_some, c55, h0]

theorem fn35_bad : PFn pg 35 [T] (.tup [.nilsl, .b false, .i .i64 (chkD ls)]) := by
  have c55 := call55 (pg := pg) hF hT hl hL []
  refine .of2 (x := .ret) (e := [(2, .nilsl), (3, .b false), (4, .i .i64 (chkD ls))]) (H' := []) (hF.S _ _) (d := d35) (by rw [hF.F]; rfl) rfl ?_ (.inl rfl) rfl (by simp) (by simp [mapO, sn_i, sn_b, sn_nil, sn8_i, sn8_b, sn8_nil, sn7_i, sn7_b, sn_sl, sn8_sl, slB_some, sn_tup, sn_agg, sn8_agg, mapO, elems])
  generalize chkD ls = C at *
  simp (disch := omega) [d35, c35, zipE, go_nil, go_last, go_past, go_pastR, go_blkN, go_blkR, go_blkE, go_skip, go_exit, go_ret, go_scope, go_seq, go_reg, go_regd, go_opdN, go_opd, go_opdG, grdd_b, grdd_u, stpd_some, find_some, go_block, go_cond, cnd_b, go_opsN, go_ops, go_opsG, grd_b, grd_u, stp_some, fin_some, up_some, cont_some, k_call, k_mv, k_pick, k_bin, k_eqB, k_eqA, k_not, k_neg, k_conv, k_alloc, k_boxA, k_boxI, k_boxB, k_boxN, k_boxBs, k_ldR, k_ldA, k_ldI, k_ldB, k_stA, k_stI, k_stB, ldC_some, stC_some, k_mkfn, k_slc, k_slcA, k_ixA, k_ixBs, k_ixSl, k_fadr, k_fld, k_ext, k_len, k_app, k_mn, k_mx, k_nilck, k_build, k_bsl1, k_bsl2, b_add, b_sub, b_mul, b_eql, b_neq, b_lss, b_leq, b_gtr, b_geq, Dn.setLast, Dn.getLast, evalO, mapO, Dn.get, putE, keepE_nil, keepE_cons, kp_some, kp_none, TV.one, TV.isAgg, Dn.part, k_boxR, negb, at0, at1, at2, at3, at4, dT, dF, wrapR_i64, Option.bind_some, Option.map_some, c55, h0]

theorem fn36_bad : PFn pg 36 [T] (.tup [.nilsl, .b false, .i .i64 (chkD ls)]) := by
  have c55 := call55 (pg := pg) hF hT hl hL []
  refine .of2 (x := .ret) (e := [(2, .nilsl), (3, .b false), (4, .i .i64 (chkD ls))]) (H' := []) (hF.S _ _) (d := d36) (by rw [hF.F]; rfl) rfl ?_ (.inl rfl) rfl (by simp) (by simp [mapO, sn_i, sn_b, sn_nil, sn8_i, sn8_b, sn8_nil, sn7_i, sn7_b, sn_sl, sn8_sl, slB_some, sn_tup, sn_agg, sn8_agg, mapO, elems])
  generalize chkD ls = C at *
  simp (disch := omega) [d36, c36, zipE, go_nil, go_last, go_past, go_pastR, go_blkN, go_blkR, go_blkE, go_skip, go_exit, go_ret, go_scope, go_seq, go_reg, go_regd, go_opdN, go_opd, go_opdG, grdd_b, grdd_u, stpd_some, find_some, go_block, go_cond, cnd_b, go_opsN, go_ops, go_opsG, grd_b, grd_u, stp_some, fin_some, up_some, cont_some, k_call, k_mv, k_pick, k_bin, k_eqB, k_eqA, k_not, k_neg, k_conv, k_alloc, k_boxA, k_boxI, k_boxB, k_boxN, k_boxBs, k_ldR, k_ldA, k_ldI, k_ldB, k_stA, k_stI, k_stB, ldC_some, stC_some, k_mkfn, k_slc, k_slcA, k_ixA, k_ixBs, k_ixSl, k_fadr, k_fld, k_ext, k_len, k_app, k_mn, k_mx, k_nilck, k_build, k_bsl1, k_bsl2, b_add, b_sub, b_mul, b_eql, b_neq, b_lss, b_leq, b_gtr, b_geq, Dn.setLast, Dn.getLast, evalO, mapO, Dn.get, putE, keepE_nil, keepE_cons, kp_some, kp_none, TV.one, TV.isAgg, Dn.part, k_boxR, negb, at0, at1, at2, at3, at4, dT, dF, wrapR_i64, Option.bind_some, Option.map_some, c55, h0]

theorem fn41_bad : PFn pg 41 [T] (.tup [.nilsl, .i .i64 (chkD ls)]) := by
  have bx : dkc pg (den pg) (.box false) [T] [] = some (.ref 0 0, [.cells [T] false]) := by
    show dk (.box false) [T] [] = _
    have h1 := hT.one
    have h2 := hT.noagg
    have h3 : T.cells = [T] := by rcases hT with ⟨rfl, _⟩ | ⟨b, es, rfl, _⟩ <;> rfl
    simp [dk, h1, h2, h3]
  have c55 := call55 (pg := pg) hF hT hl hL [.cells [T] false]
  have ld := ldC_of pg (H := [.cells [T] false]) (id := 0) (t := T) rfl hT.noagg
  refine .of2 (x := .ret) (e := [(2, .nilsl), (3, .i .i64 (chkD ls))]) (H' := [.cells [T] false]) (hF.S _ _) (d := d41) (by rw [hF.F]; rfl) rfl ?_ (.inl rfl) rfl (by simp) (by simp [mapO, sn_i, sn_b, sn_nil, sn8_i, sn8_b, sn8_nil, sn7_i, sn7_b, sn_sl, sn8_sl, slB_some, sn_tup, sn_agg, sn8_agg, mapO, elems])
  generalize ([.cells [T] false] : Heap) = H1 at *
  generalize chkD ls = C at *
  simp (disch := omega) [d41, c41, zipE, go_nil, go_last, go_past, go_pastR, go_blkN, go_blkR, go_blkE, go_skip, go_exit, go_ret, go_scope, go_seq, go_reg, go_regd, go_opdN, go_opd, go_opdG, grdd_b, grdd_u, stpd_some, find_some, go_block, go_cond, cnd_b, go_opsN, go_ops, go_opsG, grd_b, grd_u, stp_some, fin_some, up_some, cont_some, k_call, k_mv, k_pick, k_bin, k_eqB, k_eqA, k_not, k_neg, k_conv, k_alloc, k_boxA, k_boxI, k_boxB, k_boxN, k_boxBs, k_ldR, k_ldA, k_ldI, k_ldB, k_stA, k_stI, k_stB, ldC_some, stC_some, k_mkfn, k_slc, k_slcA, k_ixA, k_ixBs, k_ixSl, k_fadr, k_fld, k_ext, k_len, k_app, k_mn, k_mx, k_nilck, k_build, k_bsl1, k_bsl2, b_add, b_sub, b_mul, b_eql, b_neq, b_lss, b_leq, b_gtr, b_geq, Dn.setLast, Dn.getLast, evalO, mapO, Dn.get, putE, keepE_nil, keepE_cons, kp_some, kp_none, TV.one, TV.isAgg, Dn.part, k_boxR, negb, at0, at1, at2, at3, at4, dT, dF, wrapR_i64, Option.bind_some, Option.map_some, bx, ld, c55, h0]

theorem fn51_bad : PFn pg 51 [T] (.tup [.b false, .i .i64 (chkD ls)]) := by
  obtain ⟨T', s1, hT'⟩ := snapSSV hT []
  have c41 := PFn.call (fn41_bad (pg := pg) hF hT' hl hL h0) (args := [T]) (ks := []) (fs := []) (cs := []) (H := []) (by simpa using s1)
  refine .of2 (x := .ret) (e := [(2, .b false), (3, .i .i64 (chkD ls))]) (H' := []) (hF.S _ _) (d := d51) (by rw [hF.F]; rfl) rfl ?_ (.inl rfl) rfl (by simp) (by simp [mapO, sn_i, sn_b, sn_nil, sn8_i, sn8_b, sn8_nil, sn7_i, sn7_b, sn_sl, sn8_sl, slB_some, sn_tup, sn_agg, sn8_agg, mapO, elems])
  generalize chkD ls = C at *
  simp (disch := omega) [d51, c51, zipE, go_nil, go_last, go_past, go_pastR, go_blkN, go_blkR, go_blkE, go_skip, go_exit, go_ret, go_scope, go_seq, go_reg, go_regd, go_opdN, go_opd, go_opdG, grdd_b, grdd_u, stpd_some, find_some, go_block, go_cond, cnd_b, go_opsN, go_ops, go_opsG, grd_b, grd_u, stp_some, fin_some, up_some, cont_some, k_call, k_mv, k_pick, k_bin, k_eqB, k_eqA, k_not, k_neg, k_conv, k_alloc, k_boxA, k_boxI, k_boxB, k_boxN, k_boxBs, k_ldR, k_ldA, k_ldI, k_ldB, k_stA, k_stI, k_stB, ldC_some, stC_some, k_mkfn, k_slc, k_slcA, k_ixA, k_ixBs, k_ixSl, k_fadr, k_fld, k_ext, k_len, k_app, k_mn, k_mx, k_nilck, k_build, k_bsl1, k_bsl2, b_add, b_sub, b_mul, b_eql, b_neq, b_lss, b_leq, b_gtr, b_geq, Dn.setLast, Dn.getLast, evalO, mapO, Dn.get, putE, keepE_nil, keepE_cons, kp_some, kp_none, TV.one, TV.isAgg, Dn.part, k_boxR, negb, at0, at1, at2, at3, at4, dT, dF, wrapR_i64, Option.bind_some, Option.map_some, c41, h0]

end

theorem SSV.cells' {T : TV} {ls : List (List Int)} (hT : SSV T ls) : T.cells = [T] := by
  rcases hT with ⟨rfl, _⟩ | ⟨b, es, rfl, _⟩ <;> rfl

theorem fn49_bad1 {pg : Pg} (hF : Free pg) {S T : TV} {ms ls : List (List Int)} (hS : SSV S ms) (hT : SSV T ls) (hl : ls.length ≤ 1000000) (hL : ∀ x ∈ ls, x.length ≤ 1000000) (h0 : chkD ls ≠ 0) : PFn pg 49 [T, S] (.tup [.b false, .i .i64 (chkD ls)]) := by
  have hTc : T.cells = [T] := by rcases hT with ⟨rfl, _⟩ | ⟨b, es, rfl, _⟩ <;> rfl
  have hSc : S.cells = [S] := by rcases hS with ⟨rfl, _⟩ | ⟨b, es, rfl, _⟩ <;> rfl
  obtain ⟨H1, hH1⟩ : ∃ H1, H1 = ([.cells [T, S] false] : Heap) := ⟨_, rfl⟩
  have bs : dkc pg (den pg) (.bsl false [.nilsl] false 2 [0, 1]) [T, S] [] = some (.sl 0 0 1 false 2 (some 2), H1) := by
    rw [hH1]; simp [dkc, dk, fillP, repl, put2, hT.one, hS.one, hTc, hSc]
  have ix : dkc pg (den pg) (.ixS 1 false) [.sl 0 0 1 false 2 (some 2), .i .i64 0] H1 = some (.ref 0 0, H1) := by simp [dkc, dk, bound]
  have ld : ldC H1[0]? 1 false 0 H1 = some (T, H1) := by rw [hH1]; simp [ldC, Dn.part, up, hT.noagg]
  have c55 := call55 (pg := pg) hF hT hl hL H1
  refine .of2 (x := .ret) (e := [(4, .b false), (5, .i .i64 (chkD ls))]) (H' := H1) (hF.S _ _) (d := d49) (by rw [hF.F]; rfl) rfl ?_ (.inl rfl) rfl (by simp) (by simp [mapO, sn_i, sn_b, sn_nil, sn8_i, sn8_b, sn8_nil, sn7_i, sn7_b, sn_sl, sn8_sl, slB_some, sn_tup, sn_agg, sn8_agg, mapO, elems])
  have r : den pg l49_1 [(0, T), (1, S), (11, .sl 0 0 1 false 2 (some 2)), (12, .i .i64 2), (13, .i .i64 0)] H1 = some ⟨.ret, [(4, .b false), (5, .i .i64 (chkD ls))], H1⟩ := by
    generalize chkD ls = C at *
    clear hH1
    rw [l49_1, den_loop]
    simp (disch := omega) [b49_0, go_nil, go_last, go_past, go_pastR, go_blkN, go_blkR, go_blkE, go_skip, go_exit, go_ret, go_scope, go_seq, go_reg, go_regd, go_opdN, go_opd, go_opdG, grdd_b, grdd_u, stpd_some, find_some, go_block, go_cond, cnd_b, go_opsN, go_ops, go_opsG, grd_b, grd_u, stp_some, fin_some, up_some, cont_some, k_call, k_mv, k_pick, k_bin, k_eqB, k_eqA, k_not, k_neg, k_conv, k_alloc, k_boxA, k_boxI, k_boxB, k_boxN, k_boxBs, k_ldR, k_ldA, k_ldI, k_ldB, k_stA, k_stI, k_stB, ldC_some, stC_some, k_mkfn, k_slc, k_slcA, k_ixA, k_ixBs, k_ixSl, k_fadr, k_fld, k_ext, k_len, k_app, k_mn, k_mx, k_nilck, k_build, k_bsl1, k_bsl2, b_add, b_sub, b_mul, b_eql, b_neq, b_lss, b_leq, b_gtr, b_geq, Dn.setLast, Dn.getLast, evalO, mapO, Dn.get, putE, keepE_nil, keepE_cons, kp_some, kp_none, TV.one, TV.isAgg, Dn.part, k_boxR, negb, at0, at1, at2, at3, at4, dT, dF, wrapR_i64, Option.bind_some, Option.map_some, ix, ld, c55, h0]
  have ln : ∀ K, lenK 0 (.sl 0 0 1 false 2 (some 2)) K = some 2 := fun K => rfl
  generalize chkD ls = C at *
  clear hH1
  simp (disch := omega) [d49, c49, zipE, go_nil, go_last, go_past, go_pastR, go_blkN, go_blkR, go_blkE, go_skip, go_exit, go_ret, go_scope, go_seq, go_reg, go_regd, go_opdN, go_opd, go_opdG, grdd_b, grdd_u, stpd_some, find_some, go_block, go_cond, cnd_b, go_opsN, go_ops, go_opsG, grd_b, grd_u, stp_some, fin_some, up_some, cont_some, k_call, k_mv, k_pick, k_bin, k_eqB, k_eqA, k_not, k_neg, k_conv, k_alloc, k_boxA, k_boxI, k_boxB, k_boxN, k_boxBs, k_ldR, k_ldA, k_ldI, k_ldB, k_stA, k_stI, k_stB, ldC_some, stC_some, k_mkfn, k_slc, k_slcA, k_ixA, k_ixBs, k_ixSl, k_fadr, k_fld, k_ext, k_len, k_app, k_mn, k_mx, k_nilck, k_build, k_bsl1, k_bsl2, b_add, b_sub, b_mul, b_eql, b_neq, b_lss, b_leq, b_gtr, b_geq, Dn.setLast, Dn.getLast, evalO, mapO, Dn.get, putE, keepE_nil, keepE_cons, kp_some, kp_none, TV.one, TV.isAgg, Dn.part, k_boxR, negb, at0, at1, at2, at3, at4, dT, dF, wrapR_i64, Option.bind_some, Option.map_some, bs, ln, go_denK (c := l49_1) rfl, r]

theorem fn49_bad2 {pg : Pg} (hF : Free pg) {S T : TV} {ms ls : List (List Int)} (hS : SSV S ms) (hT : SSV T ls) (hl : ls.length ≤ 1000000) (hL : ∀ x ∈ ls, x.length ≤ 1000000) (h0 : chkD ls ≠ 0) (hm : ms.length ≤ 1000000) (hM : ∀ x ∈ ms, x.length ≤ 1000000) (h1 : chkD ms = 0) : PFn pg 49 [S, T] (.tup [.b false, .i .i64 (chkD ls)]) := by
  have hTc : T.cells = [T] := by rcases hT with ⟨rfl, _⟩ | ⟨b, es, rfl, _⟩ <;> rfl
  have hSc : S.cells = [S] := by rcases hS with ⟨rfl, _⟩ | ⟨b, es, rfl, _⟩ <;> rfl
  obtain ⟨H1, hH1⟩ : ∃ H1, H1 = ([.cells [S, T] false] : Heap) := ⟨_, rfl⟩
  have bs : dkc pg (den pg) (.bsl false [.nilsl] false 2 [0, 1]) [S, T] [] = some (.sl 0 0 1 false 2 (some 2), H1) := by
    rw [hH1]; simp [dkc, dk, fillP, repl, put2, hT.one, hS.one, hTc, hSc]
  have ix : dkc pg (den pg) (.ixS 1 false) [.sl 0 0 1 false 2 (some 2), .i .i64 0] H1 = some (.ref 0 0, H1) := by simp [dkc, dk, bound]
  have ix2 : dkc pg (den pg) (.ixS 1 false) [.sl 0 0 1 false 2 (some 2), .i .i64 1] H1 = some (.ref 0 1, H1) := by simp [dkc, dk, bound]
  have ld : ldC H1[0]? 1 false 0 H1 = some (S, H1) := by rw [hH1]; simp [ldC, Dn.part, up, hS.noagg]
  have ld2 : ldC H1[0]? 1 false 1 H1 = some (T, H1) := by rw [hH1]; simp [ldC, Dn.part, up, hT.noagg]
  have c55 := call55 (pg := pg) hF hT hl hL H1
  have c55' := call55 (pg := pg) hF hS hm hM H1
  rw [h1] at c55'
  refine .of2 (x := .ret) (e := [(4, .b false), (5, .i .i64 (chkD ls))]) (H' := H1) (hF.S _ _) (d := d49) (by rw [hF.F]; rfl) rfl ?_ (.inl rfl) rfl (by simp) (by simp [mapO, sn_i, sn_b, sn_nil, sn8_i, sn8_b, sn8_nil, sn7_i, sn7_b, sn_sl, sn8_sl, slB_some, sn_tup, sn_agg, sn8_agg, mapO, elems])
  generalize chkD ls = C at *
  clear hH1
  have r2 : den pg l49_1 [(0, S), (1, T), (11, .sl 0 0 1 false 2 (some 2)), (12, .i .i64 2), (13, .i .i64 1)] H1 = some ⟨.ret, [(4, .b false), (5, .i .i64 C)], H1⟩ := by
    rw [l49_1, den_loop]
    simp (disch := omega) [b49_0, go_nil, go_last, go_past, go_pastR, go_blkN, go_blkR, go_blkE, go_skip, go_exit, go_ret, go_scope, go_seq, go_reg, go_regd, go_opdN, go_opd, go_opdG, grdd_b, grdd_u, stpd_some, find_some, go_block, go_cond, cnd_b, go_opsN, go_ops, go_opsG, grd_b, grd_u, stp_some, fin_some, up_some, cont_some, k_call, k_mv, k_pick, k_bin, k_eqB, k_eqA, k_not, k_neg, k_conv, k_alloc, k_boxA, k_boxI, k_boxB, k_boxN, k_boxBs, k_ldR, k_ldA, k_ldI, k_ldB, k_stA, k_stI, k_stB, ldC_some, stC_some, k_mkfn, k_slc, k_slcA, k_ixA, k_ixBs, k_ixSl, k_fadr, k_fld, k_ext, k_len, k_app, k_mn, k_mx, k_nilck, k_build, k_bsl1, k_bsl2, b_add, b_sub, b_mul, b_eql, b_neq, b_lss, b_leq, b_gtr, b_geq, Dn.setLast, Dn.getLast, evalO, mapO, Dn.get, putE, keepE_nil, keepE_cons, kp_some, kp_none, TV.one, TV.isAgg, Dn.part, k_boxR, negb, at0, at1, at2, at3, at4, dT, dF, wrapR_i64, Option.bind_some, Option.map_some, ix2, ld2, c55, h0]
  have r : den pg l49_1 [(0, S), (1, T), (11, .sl 0 0 1 false 2 (some 2)), (12, .i .i64 2), (13, .i .i64 0)] H1 = some ⟨.ret, [(4, .b false), (5, .i .i64 C)], H1⟩ := by
    rw [← r2, l49_1, den_loop]
    simp (disch := omega) [l49_1, b49_0, go_nil, go_last, go_past, go_pastR, go_blkN, go_blkR, go_blkE, go_skip, go_exit, go_ret, go_scope, go_seq, go_reg, go_regd, go_opdN, go_opd, go_opdG, grdd_b, grdd_u, stpd_some, find_some, go_block, go_cond, cnd_b, go_opsN, go_ops, go_opsG, grd_b, grd_u, stp_some, fin_some, up_some, cont_some, k_call, k_mv, k_pick, k_bin, k_eqB, k_eqA, k_not, k_neg, k_conv, k_alloc, k_boxA, k_boxI, k_boxB, k_boxN, k_boxBs, k_ldR, k_ldA, k_ldI, k_ldB, k_stA, k_stI, k_stB, ldC_some, stC_some, k_mkfn, k_slc, k_slcA, k_ixA, k_ixBs, k_ixSl, k_fadr, k_fld, k_ext, k_len, k_app, k_mn, k_mx, k_nilck, k_build, k_bsl1, k_bsl2, b_add, b_sub, b_mul, b_eql, b_neq, b_lss, b_leq, b_gtr, b_geq, Dn.setLast, Dn.getLast, evalO, mapO, Dn.get, putE, keepE_nil, keepE_cons, kp_some, kp_none, TV.one, TV.isAgg, Dn.part, k_boxR, negb, at0, at1, at2, at3, at4, dT, dF, wrapR_i64, Option.bind_some, Option.map_some, ix, ld, c55']
  have ln : ∀ K, lenK 0 (.sl 0 0 1 false 2 (some 2)) K = some 2 := fun K => rfl
  simp (disch := omega) [d49, c49, zipE, go_nil, go_last, go_past, go_pastR, go_blkN, go_blkR, go_blkE, go_skip, go_exit, go_ret, go_scope, go_seq, go_reg, go_regd, go_opdN, go_opd, go_opdG, grdd_b, grdd_u, stpd_some, find_some, go_block, go_cond, cnd_b, go_opsN, go_ops, go_opsG, grd_b, grd_u, stp_some, fin_some, up_some, cont_some, k_call, k_mv, k_pick, k_bin, k_eqB, k_eqA, k_not, k_neg, k_conv, k_alloc, k_boxA, k_boxI, k_boxB, k_boxN, k_boxBs, k_ldR, k_ldA, k_ldI, k_ldB, k_stA, k_stI, k_stB, ldC_some, stC_some, k_mkfn, k_slc, k_slcA, k_ixA, k_ixBs, k_ixSl, k_fadr, k_fld, k_ext, k_len, k_app, k_mn, k_mx, k_nilck, k_build, k_bsl1, k_bsl2, b_add, b_sub, b_mul, b_eql, b_neq, b_lss, b_leq, b_gtr, b_geq, Dn.setLast, Dn.getLast, evalO, mapO, Dn.get, putE, keepE_nil, keepE_cons, kp_some, kp_none, TV.one, TV.isAgg, Dn.part, k_boxR, negb, at0, at1, at2, at3, at4, dT, dF, wrapR_i64, Option.bind_some, Option.map_some, bs, ln, go_denK (c := l49_1) rfl, r]

theorem l54_1_all {pg : Pg} (hF : Free pg) {T : TV} {l : List (List Int)} (hT : SSV T l) (hl : l.length ≤ 9223372036854775807) (hL : ∀ x ∈ l, x.length ≤ 9223372036854775807) : ∀ (n i : Nat) (O : TV) (H : Heap), i + n = min l.length 7 → (elR false).Own H O ((l.take i).map fun x => x.take 9) →
    ∃ O' H' e, den pg l54_1 [(0, T), (3, O), (4, .i .i64 (i : Int))] H = some ⟨.exit 0, (0, T) :: (3, O') :: e, H'⟩ ∧ (elR false).Own H' O' ((l.take 7).map fun x => x.take 9)
  | 0, i, O, H, hi, hO => by
    obtain rfl : i = min l.length 7 := by omega
    have htk : l.take (min l.length 7) = l.take 7 := by
      rcases Nat.lt_or_ge l.length 7 with h | h
      · rw [show min l.length 7 = l.length by omega, List.take_length, List.take_of_length_le (by omega)]
      · rw [show min l.length 7 = 7 by omega]
    rw [htk] at hO
    refine ⟨O, H, [(4, .i .i64 ((min l.length 7 : Nat) : Int)), (12, .b false)], ?_, hO⟩
    have ln := lnS hT
    by_cases h7 : l.length < 7
    · have d0 : decide (((min l.length 7 : Nat) : Int) < (l.length : Int)) = false := dF (by omega)
      generalize ((min l.length 7 : Nat) : Int) = I at *
      generalize (l.length : Int) = M at *
      clear h7 hl
      rw [l54_1, den_loop]
      simp (disch := omega) [b54_0, go_nil, go_last, go_past, go_pastR, go_blkN, go_blkR, go_blkE, go_skip, go_exit, go_ret, go_scope, go_seq, go_reg, go_regd, go_opdN, go_opd, go_opdG, grdd_b, grdd_u, stpd_some, find_some, go_block, go_cond, cnd_b, go_opsN, go_ops, go_opsG, grd_b, grd_u, stp_some, fin_some, up_some, cont_some, k_call, k_mv, k_pick, k_bin, k_eqB, k_eqA, k_not, k_neg, k_conv, k_alloc, k_boxA, k_boxI, k_boxB, k_boxN, k_boxBs, k_ldR, k_ldA, k_ldI, k_ldB, k_stA, k_stI, k_stB, ldC_some, stC_some, k_mkfn, k_slc, k_slcA, k_ixA, k_ixBs, k_ixSl, k_fadr, k_fld, k_ext, k_len, k_app, k_mn, k_mx, k_nilck, k_build, k_bsl1, k_bsl2, b_add, b_sub, b_mul, b_eql, b_neq, b_lss, b_leq, b_gtr, b_geq, Dn.setLast, Dn.getLast, evalO, mapO, Dn.get, putE, keepE_nil, keepE_cons, kp_some, kp_none, TV.one, TV.isAgg, Dn.part, k_boxR, negb, at0, at1, at2, at3, at4, dT, dF, wrapR_i64, Option.bind_some, Option.map_some, ln, d0]
    · by_cases h77 : l.length = 7
      · have d0 : decide (((min l.length 7 : Nat) : Int) < (l.length : Int)) = false := dF (by omega)
        generalize ((min l.length 7 : Nat) : Int) = I at *
        generalize (l.length : Int) = M at *
        clear h7 hl h77
        rw [l54_1, den_loop]
        simp (disch := omega) [b54_0, go_nil, go_last, go_past, go_pastR, go_blkN, go_blkR, go_blkE, go_skip, go_exit, go_ret, go_scope, go_seq, go_reg, go_regd, go_opdN, go_opd, go_opdG, grdd_b, grdd_u, stpd_some, find_some, go_block, go_cond, cnd_b, go_opsN, go_ops, go_opsG, grd_b, grd_u, stp_some, fin_some, up_some, cont_some, k_call, k_mv, k_pick, k_bin, k_eqB, k_eqA, k_not, k_neg, k_conv, k_alloc, k_boxA, k_boxI, k_boxB, k_boxN, k_boxBs, k_ldR, k_ldA, k_ldI, k_ldB, k_stA, k_stI, k_stB, ldC_some, stC_some, k_mkfn, k_slc, k_slcA, k_ixA, k_ixBs, k_ixSl, k_fadr, k_fld, k_ext, k_len, k_app, k_mn, k_mx, k_nilck, k_build, k_bsl1, k_bsl2, b_add, b_sub, b_mul, b_eql, b_neq, b_lss, b_leq, b_gtr, b_geq, Dn.setLast, Dn.getLast, evalO, mapO, Dn.get, putE, keepE_nil, keepE_cons, kp_some, kp_none, TV.one, TV.isAgg, Dn.part, k_boxR, negb, at0, at1, at2, at3, at4, dT, dF, wrapR_i64, Option.bind_some, Option.map_some, ln, d0]
      · have d0 : decide (((min l.length 7 : Nat) : Int) < (l.length : Int)) = true := dT (by omega)
        have d6 : decide (((min l.length 7 : Nat) : Int) ≤ 6) = false := dF (by omega)
        generalize ((min l.length 7 : Nat) : Int) = I at *
        generalize (l.length : Int) = M at *
        clear h7 hl h77
        rw [l54_1, den_loop]
        simp (disch := omega) [b54_0, go_nil, go_last, go_past, go_pastR, go_blkN, go_blkR, go_blkE, go_skip, go_exit, go_ret, go_scope, go_seq, go_reg, go_regd, go_opdN, go_opd, go_opdG, grdd_b, grdd_u, stpd_some, find_some, go_block, go_cond, cnd_b, go_opsN, go_ops, go_opsG, grd_b, grd_u, stp_some, fin_some, up_some, cont_some, k_call, k_mv, k_pick, k_bin, k_eqB, k_eqA, k_not, k_neg, k_conv, k_alloc, k_boxA, k_boxI, k_boxB, k_boxN, k_boxBs, k_ldR, k_ldA, k_ldI, k_ldB, k_stA, k_stI, k_stB, ldC_some, stC_some, k_mkfn, k_slc, k_slcA, k_ixA, k_ixBs, k_ixSl, k_fadr, k_fld, k_ext, k_len, k_app, k_mn, k_mx, k_nilck, k_build, k_bsl1, k_bsl2, b_add, b_sub, b_mul, b_eql, b_neq, b_lss, b_leq, b_gtr, b_geq, Dn.setLast, Dn.getLast, evalO, mapO, Dn.get, putE, keepE_nil, keepE_cons, kp_some, kp_none, TV.one, TV.isAgg, Dn.part, k_boxR, negb, at0, at1, at2, at3, at4, dT, dF, wrapR_i64, Option.bind_some, Option.map_some, ln, d0, d6]
  | n + 1, i, O, H, hi, hO => by
    have ln := lnS hT
    obtain ⟨v, hv⟩ : ∃ v, l[i]? = some v := ⟨_, List.getElem?_eq_getElem (by omega)⟩
    obtain ⟨p, a, p1, p2, p3⟩ := hT.ix (pg := pg) (R := den pg) hv H
    have c31 := call31 (pg := pg) hF p3 (hL v (List.mem_of_getElem? hv)) H
    obtain ⟨x, hx⟩ : ∃ x, x = v.take 9 := ⟨_, rfl⟩
    rw [← hx] at c31
    have hc : (elI.lt false x).cells = [elI.lt false x] := by cases x <;> rfl
    have bs := k_bslC (pg := pg) (R := den pg) (El.lt_one elI false x) hc H
    obtain ⟨H1, hH1⟩ : ∃ H1, H1 = H ++ [AObj.cells [elI.lt false x] false] := ⟨_, rfl⟩
    rw [← hH1] at bs
    have hO1 : (elR false).Own H1 O ((l.take i).map fun x => x.take 9) := hO.mono fun id hid => by rw [hH1, List.getElem?_append_left (hO.lt id hid)]
    have vx : (elR false).View H1 (.sl H.length 0 1 false 1 (some 1)) [x] := .inr (.inr ⟨H.length, 0, some 1, [elI.lt false x], false, rfl, by simp, by rw [hH1]; exact getLast _ _, by simp [elR], by simp [elR, El.flat]⟩)
    obtain ⟨O2, H2, q1, q2, -, -, -⟩ := El.app (bytes := 24) hO1 vx (by simp; omega)
    have es : (elR false).sz = 1 := rfl
    have ea : (elR false).ag = false := rfl
    rw [es, ea] at q1
    have htk : ((l.take i).map fun x => x.take 9) ++ [x] = (l.take (i + 1)).map fun x => x.take 9 := by
      rw [List.take_add_one, hv, List.map_append, hx]; rfl
    rw [htk] at q2
    obtain ⟨O', H', e, r1, r2⟩ := l54_1_all (pg := pg) hF hT hl hL n (i + 1) O2 H2 (by omega) q2
    refine ⟨O', H', e, Eq.trans ?_ r1, r2⟩
    have w2 : wrapR .i64 ((i : Int) + 1) = .i .i64 ((i + 1 : Nat) : Int) := by rw [← Int.natCast_succ]; exact wrapR_i64 (by omega)
    have dd : decide ((i : Int) < (l.length : Int)) = true := dT (by omega)
    have d6 : decide ((i : Int) ≤ 6) = true := dT (by omega)
    generalize ((i + 1 : Nat) : Int) = I2 at *
    generalize (i : Int) = I at *
    generalize (l.length : Int) = M at *
    generalize elI.lt false x = V at *
    generalize (TV.sl H.length 0 1 false 1 (some 1)) = W at *
    clear hi hl hH1 vx hO1 r1
    rw [l54_1, den_loop]
    simp (disch := omega) [l54_1, b54_0, go_nil, go_last, go_past, go_pastR, go_blkN, go_blkR, go_blkE, go_skip, go_exit, go_ret, go_scope, go_seq, go_reg, go_regd, go_opdN, go_opd, go_opdG, grdd_b, grdd_u, stpd_some, find_some, go_block, go_cond, cnd_b, go_opsN, go_ops, go_opsG, grd_b, grd_u, stp_some, fin_some, up_some, cont_some, k_call, k_mv, k_pick, k_bin, k_eqB, k_eqA, k_not, k_neg, k_conv, k_alloc, k_boxA, k_boxI, k_boxB, k_boxN, k_boxBs, k_ldR, k_ldA, k_ldI, k_ldB, k_stA, k_stI, k_stB, ldC_some, stC_some, k_mkfn, k_slc, k_slcA, k_ixA, k_ixBs, k_ixSl, k_fadr, k_fld, k_ext, k_len, k_app, k_mn, k_mx, k_nilck, k_build, k_bsl1, k_bsl2, b_add, b_sub, b_mul, b_eql, b_neq, b_lss, b_leq, b_gtr, b_geq, Dn.setLast, Dn.getLast, evalO, mapO, Dn.get, putE, keepE_nil, keepE_cons, kp_some, kp_none, TV.one, TV.isAgg, Dn.part, k_boxR, negb, at0, at1, at2, at3, at4, dT, dF, wrapR_i64, Option.bind_some, Option.map_some, ln, dd, d6, p1, p2, c31, bs, q1, w2]

theorem Own.fin8' (q : List Int) (H : Heap) : snap .fin H 8 (elI.lt false q) = some (elI.lt false q) := by
  cases q with
  | nil => rfl
  | cons x q =>
    rw [El.lt_ne (by simp)]
    show ((SM.flag .fin false).bind fun bo' => (mapO (snap .fin H 7) ((x :: q).map elI.val)).map fun es' => TV.bs bo' elI.sz es') = _
    have h1 : mapO (snap .fin H 7) ((x :: q).map elI.val) = some ((x :: q).map elI.val) := mapO_map (g := snap .fin H 7) (f := elI.val) (k := elI.val) fun a _ => by simp [elI, El.val, snap]
    rw [h1]; rfl

theorem ownR_fin {H : Heap} {t : TV} {l : List (List Int)} (h : (elR false).Own H t l) : snap .fin H 9 t = some ((elR false).lt false l) := by
  have hm : mapO (snap .fin H 8) (l.map (elR false).val) = some (l.map (elR false).val) := mapO_map (g := snap .fin H 8) (f := (elR false).val) (k := (elR false).val) (l := l) fun q _ => by
    rw [elR_val]
    exact (Own.fin8' q H)
  rcases h with ⟨rfl, rfl⟩ | ⟨h0, id, ag, c, rfl, h1, h2, h3⟩
  · rfl
  · rw [El.lt_ne h0, snap]
    simp only [reduceCtorEq, if_false, h1]
    rw [if_pos ⟨by omega, .inr rfl⟩, List.drop_zero, h3, (elR false).elems_flat, hm]
    rfl

theorem fn54 {pg : Pg} (hF : Free pg) {T : TV} {l : List (List Int)} (hT : SSV T l) (hl : l.length ≤ 9223372036854775807) (hL : ∀ x ∈ l, x.length ≤ 9223372036854775807) : PFn pg 54 [T] ((elR false).lt false ((l.take 7).map fun x => x.take 9)) := by
  obtain ⟨O, H, e, r1, r2⟩ := l54_1_all (pg := pg) hF hT hl hL (min l.length 7) 0 .nilsl [] (by omega) (.inl ⟨rfl, rfl⟩)
  simp only [Int.natCast_zero] at r1
  refine .inr ⟨hF.S _ _, O, H, body_of (x := .ret) (e := [(2, O)]) (d := d54) (by rw [hF.F]; rfl) rfl ?_ (.inl rfl) rfl, ownR_fin r2⟩
  simp (disch := omega) [d54, c54, zipE, go_nil, go_last, go_past, go_pastR, go_blkN, go_blkR, go_blkE, go_skip, go_exit, go_ret, go_scope, go_seq, go_reg, go_regd, go_opdN, go_opd, go_opdG, grdd_b, grdd_u, stpd_some, find_some, go_block, go_cond, cnd_b, go_opsN, go_ops, go_opsG, grd_b, grd_u, stp_some, fin_some, up_some, cont_some, k_call, k_mv, k_pick, k_bin, k_eqB, k_eqA, k_not, k_neg, k_conv, k_alloc, k_boxA, k_boxI, k_boxB, k_boxN, k_boxBs, k_ldR, k_ldA, k_ldI, k_ldB, k_stA, k_stI, k_stB, ldC_some, stC_some, k_mkfn, k_slc, k_slcA, k_ixA, k_ixBs, k_ixSl, k_fadr, k_fld, k_ext, k_len, k_app, k_mn, k_mx, k_nilck, k_build, k_bsl1, k_bsl2, b_add, b_sub, b_mul, b_eql, b_neq, b_lss, b_leq, b_gtr, b_geq, Dn.setLast, Dn.getLast, evalO, mapO, Dn.get, putE, keepE_nil, keepE_cons, kp_some, kp_none, TV.one, TV.isAgg, Dn.part, k_boxR, negb, at0, at1, at2, at3, at4, dT, dF, wrapR_i64, Option.bind_some, Option.map_some, go_denK (c := l54_1) rfl, r1]

end Go.Proofs.Try.Dn

