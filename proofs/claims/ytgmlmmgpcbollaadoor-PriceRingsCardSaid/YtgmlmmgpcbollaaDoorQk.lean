/-
  PriceRings: the whole run answers true.
-/
import Derived.Test.YtgmlmmgpcbollaaDoorQj
set_option linter.unusedSimpArgs false
set_option linter.unusedVariables false

namespace Go.Proofs.Tryd.Dn
open Go.Dn

theorem l4_1_round {pg : Pg} (hF : Free pg) {X : List Obs} {g : Nat} (hm : Market X g) {i : Int} (hi : 0 ≤ i ∧ i < 2) {l : List Int} (hl : l.length ≤ 100) (r : List Int) {H : Heap} :
    den pg l4_1 [(7, (elS false).lt false X), (8, (elS false).lt false X), (9, elI.lt false r), (12, (elR false).lt false (prefs X 1 1)), (13, elI.lt false l), (14, .i .i64 i)] H =
      den pg l4_1 [(7, (elS false).lt false X), (8, (elS false).lt false X), (9, elI.lt false r), (12, (elR false).lt false (prefs X 1 1)), (13, elI.lt false r), (14, .i .i64 (i + 1))] H := by
  have hn5 := hm.n5
  have e0 : i < 2 := hi.2
  have e1 : wrapR .i64 (i + 1) = .i .i64 (i + 1) := wrapR_i64 (by omega)
  obtain ⟨r1, c30, h1⟩ := call30 hF hm hl
  obtain ⟨r2, c28, h2⟩ := call28 hF hn5 false false false (pref X 1 1) hl
  have c30' := c30 H _ (.lt false l)
  have c28' := c28 H
  rw [← prefs_tab] at c28'
  have hr : r1 = r2 := by rw [Bool.eq_iff_iff, h1, h2]
  subst hr
  generalize (elR false).lt false (prefs X 1 1) = P at *
  rw [l4_1, den_loop]
  by_cases hp : isRingP X.length (pref X 1 1) l
  · have ht := h1.2 hp
    subst ht
    have c31 := call31 hF hm hl (.lt false l) hp H
    have c32 := call32 hF hm hl (.lt false l) hp.1 H
    generalize sumI (wsts X l) = W at *
    simp [l4_1, b4_0, negb, go_nil, go_last, go_past, go_pastR, go_blkN, go_blkR, go_blkE, go_skip, go_exit, go_ret, go_scope, go_seq, go_reg, go_block, go_cond, cnd_b, go_opsN, go_ops, go_opsG, grd_b, grd_u, stp_some, fin_some, up_some, cont_some, k_call, k_mv, k_pick, k_bin, k_eqB, k_eqA, k_not, k_neg, k_conv, k_alloc, k_boxA, k_boxI, k_boxB, k_boxN, k_boxBs, k_ldR, k_ldA, k_ldI, k_ldB, k_stA, k_stI, k_stB, ldC_some, stC_some, k_mkfn, k_slc, k_slcA, k_ixA, k_ixBs, k_ixSl, k_fadr, k_fld, k_ext, k_len, k_app, k_mn, k_mx, k_nilck, k_build, k_bsl1, k_bsl2, b_add, b_sub, b_mul, b_eql, b_neq, b_lss, b_leq, b_gtr, b_geq, Dn.setLast, Dn.getLast, evalO, mapO, Dn.get, putE, keepE, TV.one, TV.isAgg, Dn.part, e0, e1, c30', c28', c31, c32]
  · have ht : r1 = false := by rw [Bool.eq_false_iff]; intro h; exact hp (h1.1 h)
    subst ht
    have c31 := call31bad hF hm hl (.lt false l) hp H
    simp [l4_1, b4_0, negb, go_nil, go_last, go_past, go_pastR, go_blkN, go_blkR, go_blkE, go_skip, go_exit, go_ret, go_scope, go_seq, go_reg, go_block, go_cond, cnd_b, go_opsN, go_ops, go_opsG, grd_b, grd_u, stp_some, fin_some, up_some, cont_some, k_call, k_mv, k_pick, k_bin, k_eqB, k_eqA, k_not, k_neg, k_conv, k_alloc, k_boxA, k_boxI, k_boxB, k_boxN, k_boxBs, k_ldR, k_ldA, k_ldI, k_ldB, k_stA, k_stI, k_stB, ldC_some, stC_some, k_mkfn, k_slc, k_slcA, k_ixA, k_ixBs, k_ixSl, k_fadr, k_fld, k_ext, k_len, k_app, k_mn, k_mx, k_nilck, k_build, k_bsl1, k_bsl2, b_add, b_sub, b_mul, b_eql, b_neq, b_lss, b_leq, b_gtr, b_geq, Dn.setLast, Dn.getLast, evalO, mapO, Dn.get, putE, keepE, TV.one, TV.isAgg, Dn.part, e0, e1, c30', c28', c31]

theorem run4 {pg : Pg} (hF : Free pg) (h24 : PFn pg 24 [] (.b true)) {T S : TV} {l : List Obs} {ls : List Int} (hT : Rws T l) (hl : l.length ≤ 9223372036854775807) (n : Int) (hS : SV S ls) (hs : ls.length ≤ 9223372036854775807) : ∃ H, bodyRun pg (den pg) 4 [T, .i .i64 n, S] [] = some (.b true, H) := by
  obtain ⟨X, g, hm, c17⟩ := call17 hF hT hl n
  have hn5 := hm.n5
  have c18 := call18m hF hm
  have c24 := fun H => PFn.call h24 (args := []) (ks := []) (fs := []) (cs := []) (H := H) (by simp [snapArgs])
  obtain ⟨r, c25, r1, r2, r3⟩ := call25 hF hm
  have c26 := call26 hF hm (elS_RV false false X) (a := 1) (b := 1) (by omega) (by omega)
  obtain ⟨hr, c27, k1⟩ := call27 hF hn5 false false (pref X 1 1)
  obtain ⟨ir, c28, k2⟩ := call28 hF hn5 false false false (pref X 1 1) (l := nI r) (by rw [nI_len]; omega)
  rw [← prefs_tab] at c27 c28
  have c29 : ∀ H, callRun pg (den pg) (.pu []) [.fn 29 [] [], S, .i .i64 8] H = some (elI.lt false (ls.take 8), H) := call29 hF hS (n := 8) (by omega)
  have s1 := l4_1_round hF hm (i := 0) (by omega) (l := ls.take 8) (by simp; omega) (nI r) (H := [])
  have s2 := l4_1_round hF hm (i := 1) (by omega) (l := nI r) (by rw [nI_len]; omega) (nI r) (H := [])
  have s3 : den pg l4_1 [(7, (elS false).lt false X), (8, (elS false).lt false X), (9, elI.lt false (nI r)), (12, (elR false).lt false (prefs X 1 1)), (13, elI.lt false (nI r)), (14, .i .i64 2)] [] = some ⟨.exit 0, [(7, (elS false).lt false X), (8, (elS false).lt false X), (9, elI.lt false (nI r)), (12, (elR false).lt false (prefs X 1 1)), (13, elI.lt false (nI r)), (14, .i .i64 2), (62, .b false)], []⟩ := by
    rw [l4_1, den_loop]
    simp [b4_0, go_nil, go_last, go_past, go_pastR, go_blkN, go_blkR, go_blkE, go_skip, go_exit, go_ret, go_scope, go_seq, go_reg, go_block, go_cond, cnd_b, go_opsN, go_ops, go_opsG, grd_b, grd_u, stp_some, fin_some, up_some, cont_some, k_call, k_mv, k_pick, k_bin, k_eqB, k_eqA, k_not, k_neg, k_conv, k_alloc, k_boxA, k_boxI, k_boxB, k_boxN, k_boxBs, k_ldR, k_ldA, k_ldI, k_ldB, k_stA, k_stI, k_stB, ldC_some, stC_some, k_mkfn, k_slc, k_slcA, k_ixA, k_ixBs, k_ixSl, k_fadr, k_fld, k_ext, k_len, k_app, k_mn, k_mx, k_nilck, k_build, k_bsl1, k_bsl2, b_add, b_sub, b_mul, b_eql, b_neq, b_lss, b_leq, b_gtr, b_geq, Dn.setLast, Dn.getLast, evalO, mapO, Dn.get, putE, keepE, TV.one, TV.isAgg, Dn.part]
  have hst := s1.trans (s2.trans s3)
  refine ⟨[], body_of (x := .ret) (e := [(6, .b true)]) (d := d4) (by rw [hF.F]; rfl) rfl ?_ (.inl rfl) rfl⟩
  generalize (elR false).lt false (prefs X 1 1) = P at *
  by_cases hne : r = []
  · have hhr : hr = false := by
      rw [Bool.eq_false_iff]; intro h
      exact r1.1 hne (k1.1 h)
    subst hhr
    subst hne
    have c25' : ∀ H, callRun pg (den pg) (.pu []) [.fn 25 [] [], (elS false).lt false X] H = some (.tup [.nilsl, .b false, .i .i64 0], H) := c25
    have ln : ∀ H, lenK 0 .nilsl H = some 0 := fun _ => rfl
    have hst' : den pg l4_1 [(7, (elS false).lt false X), (8, (elS false).lt false X), (9, .nilsl), (12, P), (13, elI.lt false (ls.take 8)), (14, .i .i64 0)] [] = some ⟨.exit 0, [(7, (elS false).lt false X), (8, (elS false).lt false X), (9, .nilsl), (12, P), (13, .nilsl), (14, .i .i64 2), (62, .b false)], []⟩ := hst
    simp [d4, c4, negb, zipE, go_nil, go_last, go_past, go_pastR, go_blkN, go_blkR, go_blkE, go_skip, go_exit, go_ret, go_scope, go_seq, go_reg, go_block, go_cond, cnd_b, go_opsN, go_ops, go_opsG, grd_b, grd_u, stp_some, fin_some, up_some, cont_some, k_call, k_mv, k_pick, k_bin, k_eqB, k_eqA, k_not, k_neg, k_conv, k_alloc, k_boxA, k_boxI, k_boxB, k_boxN, k_boxBs, k_ldR, k_ldA, k_ldI, k_ldB, k_stA, k_stI, k_stB, ldC_some, stC_some, k_mkfn, k_slc, k_slcA, k_ixA, k_ixBs, k_ixSl, k_fadr, k_fld, k_ext, k_len, k_app, k_mn, k_mx, k_nilck, k_build, k_bsl1, k_bsl2, b_add, b_sub, b_mul, b_eql, b_neq, b_lss, b_leq, b_gtr, b_geq, Dn.setLast, Dn.getLast, evalO, mapO, Dn.get, putE, keepE, TV.one, TV.isAgg, Dn.part, c17, c18, c25', c26, c27, c29, ln, go_denK (c := l4_1) rfl, hst', c24]
  · have hd : decide (r ≠ []) = true := by simpa using hne
    rw [hd] at c25
    have hhr : hr = true := k1.2 (Classical.byContradiction fun h => hne (r1.2 h))
    have hir : ir = true := k2.2 (r2 hne)
    subst hhr
    subst hir
    simp [d4, c4, negb, zipE, go_nil, go_last, go_past, go_pastR, go_blkN, go_blkR, go_blkE, go_skip, go_exit, go_ret, go_scope, go_seq, go_reg, go_block, go_cond, cnd_b, go_opsN, go_ops, go_opsG, grd_b, grd_u, stp_some, fin_some, up_some, cont_some, k_call, k_mv, k_pick, k_bin, k_eqB, k_eqA, k_not, k_neg, k_conv, k_alloc, k_boxA, k_boxI, k_boxB, k_boxN, k_boxBs, k_ldR, k_ldA, k_ldI, k_ldB, k_stA, k_stI, k_stB, ldC_some, stC_some, k_mkfn, k_slc, k_slcA, k_ixA, k_ixBs, k_ixSl, k_fadr, k_fld, k_ext, k_len, k_app, k_mn, k_mx, k_nilck, k_build, k_bsl1, k_bsl2, b_add, b_sub, b_mul, b_eql, b_neq, b_lss, b_leq, b_gtr, b_geq, Dn.setLast, Dn.getLast, evalO, mapO, Dn.get, putE, keepE, TV.one, TV.isAgg, Dn.part, c17, c18, c25, c26, c27, c28, c29, go_denK (c := l4_1) rfl, hst, c24]

end Go.Proofs.Tryd.Dn

