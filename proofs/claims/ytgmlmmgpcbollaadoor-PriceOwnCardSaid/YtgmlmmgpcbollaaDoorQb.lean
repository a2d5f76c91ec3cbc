/-
  The reference's costs and tastes.
-/
import Derived.Test.YtgmlmmgpcbollaaDoorQa
import Derived.Test.YtgmlmmgpcbollaaDoorDd
set_option linter.unusedSimpArgs false
set_option linter.unusedVariables false

namespace Go.Proofs.Tryd.Dn
open Go.Dn

theorem l46_all {pg : Pg} {P B : TV} {ps bs : List Int} (hP : ∀ H, elI.View H P ps) (hB : ∀ H, elI.View H B bs) (hl : ps.length ≤ bs.length) (hl2 : ps.length ≤ 1000) (hp : ∀ x ∈ ps, 0 ≤ x ∧ x ≤ 1000) (hb : ∀ x ∈ bs, 0 ≤ x ∧ x ≤ 1000) {H : Heap} : ∀ (k i : Nat) (m : Int), i + k = ps.length → 0 ≤ m ∧ m ≤ 1000000 * (i : Int) →
    ∃ e, den pg l46_1 [(0, P), (1, B), (5, .i .i64 m), (6, .i .i64 (i : Int))] H = some ⟨.exit 0, e, H⟩ ∧ Dn.get e 5 = some (.i .i64 (m + dot (ps.drop i) (bs.drop i)))
  | 0, i, m, h, hm => by
    have e1 : ¬ ((i : Int) < (ps.length : Int)) := by omega
    have hlen := (hP H).lenK
    refine ⟨[(0, P), (1, B), (5, .i .i64 m), (6, .i .i64 (i : Int)), (10, .b false)], ?_, ?_⟩
    · rw [l46_1, den_loop]
      simp [b46_0, go_nil, go_last, go_past, go_pastR, go_blkN, go_blkR, go_blkE, go_skip, go_exit, go_ret, go_scope, go_seq, go_reg, go_regd, go_opdN, go_opd, go_opdG, grdd_b, grdd_u, stpd_some, find_some, go_block, go_cond, cnd_b, go_opsN, go_ops, go_opsG, grd_b, grd_u, stp_some, fin_some, up_some, cont_some, k_call, k_mv, k_pick, k_bin, k_eqB, k_eqA, k_not, k_neg, k_conv, k_alloc, k_boxA, k_boxI, k_boxB, k_boxN, k_boxBs, k_ldR, k_ldA, k_ldI, k_ldB, k_stA, k_stI, k_stB, ldC_some, stC_some, k_mkfn, k_slc, k_slcA, k_ixA, k_ixBs, k_ixSl, k_fadr, k_fld, k_ext, k_len, k_app, k_mn, k_mx, k_nilck, k_build, k_bsl1, k_bsl2, b_add, b_sub, b_mul, b_eql, b_neq, b_lss, b_leq, b_gtr, b_geq, Dn.setLast, Dn.getLast, evalO, mapO, Dn.get, putE, keepE, TV.one, TV.isAgg, Dn.part, hlen, e1]
    · rw [List.drop_eq_nil_of_le (by omega)]; simp [Dn.get, dot]
  | k + 1, i, m, h, hm => by
    have hi : i < ps.length := by omega
    have hib : i < bs.length := by omega
    have e1 : ((i : Int) < (ps.length : Int)) := by omega
    have e2 : wrapR .i64 ((i : Int) + 1) = .i .i64 ((i : Int) + 1) := wrapR_i64 (by omega)
    have hlen := (hP H).lenK
    have hx := hp ps[i] (List.getElem_mem hi)
    have hy := hb bs[i] (List.getElem_mem hib)
    have h5 : 0 ≤ ps[i] * bs[i] := Int.mul_nonneg hx.1 hy.1
    have h6 : ps[i] * bs[i] ≤ 1000 * 1000 := Int.mul_le_mul hx.2 hy.2 hy.1 (by omega)
    have e3 : wrapR .i64 (ps[i] * bs[i]) = .i .i64 (ps[i] * bs[i]) := wrapR_i64 (by omega)
    have e4 : wrapR .i64 (m + ps[i] * bs[i]) = .i .i64 (m + ps[i] * bs[i]) := wrapR_i64 (by omega)
    obtain ⟨p, hp1, hv1⟩ := ixI (pg := pg) (R := den pg) (hP H) (List.getElem?_eq_getElem hi)
    obtain ⟨q, hp2, hv2⟩ := ixI (pg := pg) (R := den pg) (hB H) (List.getElem?_eq_getElem hib)
    obtain ⟨e, h1, h2⟩ := l46_all (pg := pg) hP hB hl hl2 hp hb (H := H) k (i + 1) (m + ps[i] * bs[i]) (by omega) (by omega)
    refine ⟨e, Eq.trans ?_ h1, ?_⟩
    · rw [l46_1, den_loop]
      simp [l46_1, b46_0, go_nil, go_last, go_past, go_pastR, go_blkN, go_blkR, go_blkE, go_skip, go_exit, go_ret, go_scope, go_seq, go_reg, go_regd, go_opdN, go_opd, go_opdG, grdd_b, grdd_u, stpd_some, find_some, go_block, go_cond, cnd_b, go_opsN, go_ops, go_opsG, grd_b, grd_u, stp_some, fin_some, up_some, cont_some, k_call, k_mv, k_pick, k_bin, k_eqB, k_eqA, k_not, k_neg, k_conv, k_alloc, k_boxA, k_boxI, k_boxB, k_boxN, k_boxBs, k_ldR, k_ldA, k_ldI, k_ldB, k_stA, k_stI, k_stB, ldC_some, stC_some, k_mkfn, k_slc, k_slcA, k_ixA, k_ixBs, k_ixSl, k_fadr, k_fld, k_ext, k_len, k_app, k_mn, k_mx, k_nilck, k_build, k_bsl1, k_bsl2, b_add, b_sub, b_mul, b_eql, b_neq, b_lss, b_leq, b_gtr, b_geq, Dn.setLast, Dn.getLast, evalO, mapO, Dn.get, putE, keepE, TV.one, TV.isAgg, Dn.part, hlen, e1, e2, e3, e4, hp1, hv1, hp2, hv2]
    · rw [List.drop_eq_getElem_cons hi, List.drop_eq_getElem_cons hib, h2, dot, Int.add_assoc]

theorem fn46 {pg : Pg} (hF : Free pg) {P B : TV} {ps bs : List Int} (hP : SV P ps) (hB : SV B bs) (hl : ps.length ≤ bs.length) (hl2 : ps.length ≤ 1000) (hp : ∀ x ∈ ps, 0 ≤ x ∧ x ≤ 1000) (hb : ∀ x ∈ bs, 0 ≤ x ∧ x ≤ 1000) : PFn pg 46 [P, B] (.i .i64 (dot ps bs)) := by
  obtain ⟨e, h1, h2⟩ := l46_all (pg := pg) (fun H => hP.view H) (fun H => hB.view H) hl hl2 hp hb (H := []) ps.length 0 0 (by omega) (by simp)
  simp only [Int.natCast_zero, List.drop_zero, Int.zero_add] at h1 h2
  refine .of1 (x := .ret) (e := [(4, .i .i64 (dot ps bs))]) (H' := []) (hF.S _ _ (by decide)) (d := d46) (by rw [hF.F]; rfl) rfl ?_ (.inl rfl) rfl (by simp [sn_i, sn_b, sn_nil, sn8_i, sn8_b, sn8_nil, sn7_i, sn7_b, sn_sl, sn8_sl, slB_some, sn_tup, sn_agg, sn8_agg, mapO, elems])
  simp [d46, c46, zipE, go_nil, go_last, go_past, go_pastR, go_blkN, go_blkR, go_blkE, go_skip, go_exit, go_ret, go_scope, go_seq, go_reg, go_regd, go_opdN, go_opd, go_opdG, grdd_b, grdd_u, stpd_some, find_some, go_block, go_cond, cnd_b, go_opsN, go_ops, go_opsG, grd_b, grd_u, stp_some, fin_some, up_some, cont_some, k_call, k_mv, k_pick, k_bin, k_eqB, k_eqA, k_not, k_neg, k_conv, k_alloc, k_boxA, k_boxI, k_boxB, k_boxN, k_boxBs, k_ldR, k_ldA, k_ldI, k_ldB, k_stA, k_stI, k_stB, ldC_some, stC_some, k_mkfn, k_slc, k_slcA, k_ixA, k_ixBs, k_ixSl, k_fadr, k_fld, k_ext, k_len, k_app, k_mn, k_mx, k_nilck, k_build, k_bsl1, k_bsl2, b_add, b_sub, b_mul, b_eql, b_neq, b_lss, b_leq, b_gtr, b_geq, Dn.setLast, Dn.getLast, evalO, mapO, Dn.get, putE, keepE, TV.one, TV.isAgg, Dn.part, go_denK (c := l46_1) rfl, h1, h2]

theorem call46 {pg : Pg} (hF : Free pg) {P B : TV} {ps bs : List Int} (hP : SV P ps) (hB : SV B bs) (hl : ps.length ≤ bs.length) (hl2 : ps.length ≤ 1000) (hp : ∀ x ∈ ps, 0 ≤ x ∧ x ≤ 1000) (hb : ∀ x ∈ bs, 0 ≤ x ∧ x ≤ 1000) (H : Heap) : callRun pg (den pg) (.pu []) [.fn 46 [] [], P, B] H = some (.i .i64 (dot ps bs), H) := by
  obtain ⟨P', h1, h2⟩ := hP.snap H 7
  obtain ⟨B', h3, h4⟩ := hB.snap H 7
  exact PFn.call (fn46 hF h2 h4 hl hl2 hp hb) (args := [P, B]) (by simp [snapArgs, h1, h3])

theorem range_drop {n k : Nat} (h : k < n) : (List.range n).drop k = k :: (List.range n).drop (k + 1) := by
  rw [List.drop_eq_getElem_cons (by simpa using h)]; simp

theorem l37_1_all {pg : Pg} (hF : Free pg) {X : List Obs} {g : Nat} (hm : Market X g) {T out : TV} (hT : Rws T X) {i : Nat} (hi : i < X.length) {base : Nat} {H0 : Heap} : ∀ (d k : Nat) (R : TV) (m : List Int) (H : Heap), k + d = X.length → RowInv base H0 H R m → m.length = k →
    ∃ e R' H', den pg l37_1 [(0, T), (3, out), (4, .i .i64 (i : Int)), (5, R), (6, .i .i64 (k : Int))] H = some ⟨.exit 2, e, H'⟩ ∧ Dn.get e 0 = some T ∧ Dn.get e 3 = some out ∧ Dn.get e 4 = some (.i .i64 (i : Int)) ∧ Dn.get e 5 = some R' ∧
      RowInv base H0 H' R' (m ++ ((List.range X.length).drop k).map (costOf X i))
  | 0, k, R, m, H, h, hr, hml => by
    have e1 : ¬ ((k : Int) < (X.length : Int)) := by omega
    have hlen := hT.len
    refine ⟨[(0, T), (3, out), (4, .i .i64 (i : Int)), (5, R), (6, .i .i64 (k : Int)), (16, .b false)], R, H, ?_, rfl, rfl, rfl, rfl, ?_⟩
    · rw [l37_1, den_loop]
      simp [b37_0, go_nil, go_last, go_past, go_pastR, go_blkN, go_blkR, go_blkE, go_skip, go_exit, go_ret, go_scope, go_seq, go_reg, go_regd, go_opdN, go_opd, go_opdG, grdd_b, grdd_u, stpd_some, find_some, go_block, go_cond, cnd_b, go_opsN, go_ops, go_opsG, grd_b, grd_u, stp_some, fin_some, up_some, cont_some, k_call, k_mv, k_pick, k_bin, k_eqB, k_eqA, k_not, k_neg, k_conv, k_alloc, k_boxA, k_boxI, k_boxB, k_boxN, k_boxBs, k_ldR, k_ldA, k_ldI, k_ldB, k_stA, k_stI, k_stB, ldC_some, stC_some, k_mkfn, k_slc, k_slcA, k_ixA, k_ixBs, k_ixSl, k_fadr, k_fld, k_ext, k_len, k_app, k_mn, k_mx, k_nilck, k_build, k_bsl1, k_bsl2, b_add, b_sub, b_mul, b_eql, b_neq, b_lss, b_leq, b_gtr, b_geq, Dn.setLast, Dn.getLast, evalO, mapO, Dn.get, putE, keepE, TV.one, TV.isAgg, Dn.part, hlen, e1]
    · rw [List.drop_eq_nil_of_le (by simp; omega)]; simpa using hr
  | d + 1, k, R, m, H, h, hr, hml => by
    have hk : k < X.length := by omega
    have hn5 := hm.n5
    have e1 : ((k : Int) < (X.length : Int)) := by omega
    have e2 : wrapR .i64 ((k : Int) + 1) = .i .i64 ((k : Int) + 1) := wrapR_i64 (by omega)
    have hlen := hT.len
    obtain ⟨b1, a1, c1, hix1, ha1, hc1⟩ := hT.ix (pg := pg) (R := den pg) (List.getElem?_eq_getElem hi) H
    obtain ⟨b2, a2, c2, hix2, ha2, hc2⟩ := hT.ix (pg := pg) (R := den pg) (List.getElem?_eq_getElem hk) H
    obtain ⟨f1, _⟩ := k_fadrP (pg := pg) (R := den pg) b1 a1 c1 ha1.noagg hc1.noagg H
    obtain ⟨_, f2⟩ := k_fadrP (pg := pg) (R := den pg) b2 a2 c2 ha2.noagg hc2.noagg H
    have d1 := k_ldV (pg := pg) (R := den pg) b1 a1 ha1.one H
    have d2 := k_ldV (pg := pg) (R := den pg) b2 c2 hc2.one H
    obtain ⟨q1, q2, q3, q4⟩ := hm.small (List.getElem_mem hi) (List.getElem_mem hk)
    have c46 := call46 hF ha1 hc2 q1 q2 q3 q4 H
    rw [← costOf_get (List.getElem?_eq_getElem hi) (List.getElem?_eq_getElem hk)] at c46
    obtain ⟨R', H', h1, h2⟩ := hr.push (costOf X i k) (by omega)
    obtain ⟨e, R2, H2, h3, h4, h5, h6, h7, h8⟩ := l37_1_all hF hm hT hi d (k + 1) R' _ H' (by omega) h2 (by simp; omega)
    refine ⟨e, R2, H2, Eq.trans ?_ h3, h4, h5, h6, h7, ?_⟩
    · rw [l37_1, den_loop]
      simp [l37_1, b37_0, go_nil, go_last, go_past, go_pastR, go_blkN, go_blkR, go_blkE, go_skip, go_exit, go_ret, go_scope, go_seq, go_reg, go_regd, go_opdN, go_opd, go_opdG, grdd_b, grdd_u, stpd_some, find_some, go_block, go_cond, cnd_b, go_opsN, go_ops, go_opsG, grd_b, grd_u, stp_some, fin_some, up_some, cont_some, k_call, k_mv, k_pick, k_bin, k_eqB, k_eqA, k_not, k_neg, k_conv, k_alloc, k_boxA, k_boxI, k_boxB, k_boxN, k_boxBs, k_ldR, k_ldA, k_ldI, k_ldB, k_stA, k_stI, k_stB, ldC_some, stC_some, k_mkfn, k_slc, k_slcA, k_ixA, k_ixBs, k_ixSl, k_fadr, k_fld, k_ext, k_len, k_app, k_mn, k_mx, k_nilck, k_build, k_bsl1, k_bsl2, b_add, b_sub, b_mul, b_eql, b_neq, b_lss, b_leq, b_gtr, b_geq, Dn.setLast, Dn.getLast, evalO, mapO, Dn.get, putE, keepE, TV.one, TV.isAgg, Dn.part, hlen, e1, e2, hix1, hix2, f1, f2, d1, d2, c46, h1]
    · rw [range_drop hk, List.map_cons]
      simpa [List.append_assoc] using h8

theorem costRow_eq (X : List Obs) (i : Nat) : ((List.range X.length).drop 0).map (costOf X i) = costRow X i := rfl

theorem l37_3_all {pg : Pg} (hF : Free pg) {X : List Obs} {g : Nat} (hm : Market X g) {T : TV} (hT : Rws T X) : ∀ (d i : Nat) (out : TV) (ls : List (List Int)) (H : Heap), i + d = X.length → Nest elI H out ls → ls.length = i →
    ∃ e out' H', den pg l37_3 [(0, T), (3, out), (4, .i .i64 (i : Int))] H = some ⟨.exit 0, e, H'⟩ ∧ Dn.get e 3 = some out' ∧ Nest elI H' out' (ls ++ ((List.range X.length).drop i).map (costRow X))
  | 0, i, out, ls, H, h, ho, hl => by
    have e1 : ¬ ((i : Int) < (X.length : Int)) := by omega
    have hlen := hT.len
    refine ⟨[(0, T), (3, out), (4, .i .i64 (i : Int)), (10, .b false)], out, H, ?_, rfl, ?_⟩
    · rw [l37_3, den_loop]
      simp [b37_2, go_nil, go_last, go_past, go_pastR, go_blkN, go_blkR, go_blkE, go_skip, go_exit, go_ret, go_scope, go_seq, go_reg, go_regd, go_opdN, go_opd, go_opdG, grdd_b, grdd_u, stpd_some, find_some, go_block, go_cond, cnd_b, go_opsN, go_ops, go_opsG, grd_b, grd_u, stp_some, fin_some, up_some, cont_some, k_call, k_mv, k_pick, k_bin, k_eqB, k_eqA, k_not, k_neg, k_conv, k_alloc, k_boxA, k_boxI, k_boxB, k_boxN, k_boxBs, k_ldR, k_ldA, k_ldI, k_ldB, k_stA, k_stI, k_stB, ldC_some, stC_some, k_mkfn, k_slc, k_slcA, k_ixA, k_ixBs, k_ixSl, k_fadr, k_fld, k_ext, k_len, k_app, k_mn, k_mx, k_nilck, k_build, k_bsl1, k_bsl2, b_add, b_sub, b_mul, b_eql, b_neq, b_lss, b_leq, b_gtr, b_geq, Dn.setLast, Dn.getLast, evalO, mapO, Dn.get, putE, keepE, TV.one, TV.isAgg, Dn.part, hlen, e1]
    · rw [List.drop_eq_nil_of_le (by simp; omega)]; simpa using ho
  | d + 1, i, out, ls, H, h, ho, hl => by
    have hi : i < X.length := by omega
    have hn5 := hm.n5
    have e1 : ((i : Int) < (X.length : Int)) := by omega
    have e2 : wrapR .i64 ((i : Int) + 1) = .i .i64 ((i : Int) + 1) := wrapR_i64 (by omega)
    have hlen := hT.len
    obtain ⟨e, R, H1, h1, g0, g3, g4, g5, h2⟩ := l37_1_all hF hm (out := out) hT hi X.length 0 .nilsl [] H (by omega) (RowInv.nil H) rfl
    simp only [Int.natCast_zero] at h1
    rw [List.nil_append, costRow_eq] at h2
    obtain ⟨o1, o2, o3⟩ := Own_one h2.own
    have kb := k_bslC (pg := pg) (R := den pg) o1 o3 H1
    obtain ⟨out', H', h3, h4, h5, _, _⟩ := (ho.mono (H' := H1) h2.old).app h2.own (fun id hid he => by have := h2.new id hid; have := ho.lt id he; omega) (by omega)
    obtain ⟨e', out2, H2, h6, h7, h8⟩ := l37_3_all hF hm hT d (i + 1) out' _ H' (by omega) h4 (by simp; omega)
    refine ⟨e', out2, H2, Eq.trans ?_ h6, h7, ?_⟩
    · rw [l37_3, den_loop]
      simp [l37_3, b37_2, go_nil, go_last, go_past, go_pastR, go_blkN, go_blkR, go_blkE, go_skip, go_exit, go_ret, go_scope, go_seq, go_reg, go_regd, go_opdN, go_opd, go_opdG, grdd_b, grdd_u, stpd_some, find_some, go_block, go_cond, cnd_b, go_opsN, go_ops, go_opsG, grd_b, grd_u, stp_some, fin_some, up_some, cont_some, k_call, k_mv, k_pick, k_bin, k_eqB, k_eqA, k_not, k_neg, k_conv, k_alloc, k_boxA, k_boxI, k_boxB, k_boxN, k_boxBs, k_ldR, k_ldA, k_ldI, k_ldB, k_stA, k_stI, k_stB, ldC_some, stC_some, k_mkfn, k_slc, k_slcA, k_ixA, k_ixBs, k_ixSl, k_fadr, k_fld, k_ext, k_len, k_app, k_mn, k_mx, k_nilck, k_build, k_bsl1, k_bsl2, b_add, b_sub, b_mul, b_eql, b_neq, b_lss, b_leq, b_gtr, b_geq, Dn.setLast, Dn.getLast, evalO, mapO, Dn.get, putE, keepE, TV.one, TV.isAgg, Dn.part, hlen, e1, e2, go_denK (c := l37_1) rfl, h1, g0, g3, g4, g5, kb, h3]
    · rw [range_drop hi, List.map_cons]
      simpa [List.append_assoc] using h8

theorem fn37 {pg : Pg} (hF : Free pg) {X : List Obs} {g : Nat} (hm : Market X g) {T : TV} (hT : Rws T X) : PFn pg 37 [T] ((elR false).lt false (costs X)) := by
  obtain ⟨e, out', H', h1, h2, h3⟩ := l37_3_all hF hm hT X.length 0 .nilsl [] [] (by omega) (Nest.nil _) rfl
  simp only [Int.natCast_zero] at h1
  rw [List.nil_append, show ((List.range X.length).drop 0).map (costRow X) = costs X from rfl] at h3
  refine .of_go (x := .ret) (e := [(2, out')]) (H' := H') (vs := [out']) (hF.S _ _ (by decide)) (d := d37) (by rw [hF.F]; rfl) rfl ?_ (.inl rfl) rfl (by rw [← elRw_I]; exact h3.fin elI_flat 5)
  simp [d37, c37, zipE, go_nil, go_last, go_past, go_pastR, go_blkN, go_blkR, go_blkE, go_skip, go_exit, go_ret, go_scope, go_seq, go_reg, go_regd, go_opdN, go_opd, go_opdG, grdd_b, grdd_u, stpd_some, find_some, go_block, go_cond, cnd_b, go_opsN, go_ops, go_opsG, grd_b, grd_u, stp_some, fin_some, up_some, cont_some, k_call, k_mv, k_pick, k_bin, k_eqB, k_eqA, k_not, k_neg, k_conv, k_alloc, k_boxA, k_boxI, k_boxB, k_boxN, k_boxBs, k_ldR, k_ldA, k_ldI, k_ldB, k_stA, k_stI, k_stB, ldC_some, stC_some, k_mkfn, k_slc, k_slcA, k_ixA, k_ixBs, k_ixSl, k_fadr, k_fld, k_ext, k_len, k_app, k_mn, k_mx, k_nilck, k_build, k_bsl1, k_bsl2, b_add, b_sub, b_mul, b_eql, b_neq, b_lss, b_leq, b_gtr, b_geq, Dn.setLast, Dn.getLast, evalO, mapO, Dn.get, putE, keepE, TV.one, TV.isAgg, Dn.part, go_denK (c := l37_3) rfl, h1, h2]

theorem call37 {pg : Pg} (hF : Free pg) {X : List Obs} {g : Nat} (hm : Market X g) {T : TV} (hT : Rws T X) (H : Heap) : callRun pg (den pg) (.pu []) [.fn 37 [] [], T] H = some ((elR false).lt false (costs X), H) := by
  obtain ⟨T', h1, h2⟩ := hT.snap H 5
  exact PFn.call (fn37 hF hm h2) (args := [T]) (by simp [snapArgs, h1])

end Go.Proofs.Tryd.Dn

/-
  The reference's table of tastes; tables compared.
-/

namespace Go.Proofs.Tryd.Dn
open Go.Dn

theorem ixR {pg : Pg} {R : Rec} {H : Heap} {t : TV} {b : Bool} {ls : List (List Int)} (h : (elR b).View H t ls) {i : Nat} {l : List Int} (hx : ls[i]? = some l) : ∃ p, dkc pg R (.ixS 1 false) [t, .i .i64 (i : Int)] H = some (p, H) ∧ dkc pg R (.ld 1 false) [p] H = some (elI.lt b l, H) := by
  obtain ⟨p, h1, h2, _⟩ := h.ix (pg := pg) (R := R) hx .i64
  exact ⟨p, h1, h2.ld⟩

theorem costs_get {X : List Obs} {i : Nat} (h : i < X.length) : (costs X)[i]? = some (costRow X i) := by
  simp [costs, h]
theorem costRow_get {X : List Obs} {i k : Nat} (h : k < X.length) : (costRow X i)[k]? = some (costOf X i k) := by
  simp [costRow, h]
theorem costs_len (X : List Obs) : (costs X).length = X.length := by simp [costs]

theorem mul_fits {a c : Int} (ha : 0 ≤ a ∧ a ≤ 1000000) (hc : 0 ≤ c ∧ c ≤ 1200) : wrapR .i64 (a * c) = .i .i64 (a * c) := by
  have h5 : 0 ≤ a * c := Int.mul_nonneg ha.1 hc.1
  have h6 : a * c ≤ 1000000 * 1200 := Int.mul_le_mul ha.2 hc.2 hc.1 (by omega)
  exact wrapR_i64 (by omega)

theorem l26_1_all {pg : Pg} (hF : Free pg) {X : List Obs} {g : Nat} (hm : Market X g) {T out C : TV} {a b : Int} (ha : 0 ≤ a ∧ a ≤ 1000000) (hb : 0 ≤ b ∧ b ≤ 1000000) (hT : Rws T X) (hC : C = (elR false).lt false (costs X)) {i : Nat} (hi : i < X.length) {base : Nat} {H0 : Heap} : ∀ (d k : Nat) (R : TV) (m : List Int) (H : Heap), k + d = X.length → RowInv base H0 H R m → m.length = k →
    ∃ e R' H', den pg l26_1 [(0, T), (1, .i .i64 a), (2, .i .i64 b), (7, C), (8, out), (9, .i .i64 (i : Int)), (10, R), (11, .i .i64 (k : Int))] H = some ⟨.exit 2, e, H'⟩ ∧
      keepE [0, 1, 2, 7, 8, 9, 10] e = [(0, T), (1, .i .i64 a), (2, .i .i64 b), (7, C), (8, out), (9, .i .i64 (i : Int)), (10, R')] ∧
      RowInv base H0 H' R' (m ++ ((List.range X.length).drop k).map (pref X a b i))
  | 0, k, R, m, H, h, hr, hml => by
    have e1 : ¬ ((k : Int) < (X.length : Int)) := by omega
    have hlen := hT.len
    refine ⟨[(0, T), (1, .i .i64 a), (2, .i .i64 b), (7, C), (8, out), (9, .i .i64 (i : Int)), (10, R), (11, .i .i64 (k : Int)), (24, .b false)], R, H, ?_, rfl, ?_⟩
    · rw [l26_1, den_loop]
      simp [b26_0, go_nil, go_last, go_past, go_pastR, go_blkN, go_blkR, go_blkE, go_skip, go_exit, go_ret, go_scope, go_seq, go_reg, go_regd, go_opdN, go_opd, go_opdG, grdd_b, grdd_u, stpd_some, find_some, go_block, go_cond, cnd_b, go_opsN, go_ops, go_opsG, grd_b, grd_u, stp_some, fin_some, up_some, cont_some, k_call, k_mv, k_pick, k_bin, k_eqB, k_eqA, k_not, k_neg, k_conv, k_alloc, k_boxA, k_boxI, k_boxB, k_boxN, k_boxBs, k_ldR, k_ldA, k_ldI, k_ldB, k_stA, k_stI, k_stB, ldC_some, stC_some, k_mkfn, k_slc, k_slcA, k_ixA, k_ixBs, k_ixSl, k_fadr, k_fld, k_ext, k_len, k_app, k_mn, k_mx, k_nilck, k_build, k_bsl1, k_bsl2, b_add, b_sub, b_mul, b_eql, b_neq, b_lss, b_leq, b_gtr, b_geq, Dn.setLast, Dn.getLast, evalO, mapO, Dn.get, putE, keepE, TV.one, TV.isAgg, Dn.part, hlen, e1]
    · rw [List.drop_eq_nil_of_le (by simp; omega)]; simpa using hr
  | d + 1, k, R, m, H, h, hr, hml => by
    have hk : k < X.length := by omega
    have hn5 := hm.n5
    have e1 : ((k : Int) < (X.length : Int)) := by omega
    have e2 : wrapR .i64 ((k : Int) + 1) = .i .i64 ((k : Int) + 1) := wrapR_i64 (by omega)
    have hlen := hT.len
    have hCv : (elR false).View H C (costs X) := by rw [hC]; exact El.lt_view _ _ _
    obtain ⟨p, hp, hv⟩ := ixR (pg := pg) (R := den pg) hCv (costs_get hi)
    have hRv : elI.View H (elI.lt false (costRow X i)) (costRow X i) := El.lt_view _ _ _
    obtain ⟨q, hq, hw⟩ := ixI (pg := pg) (R := den pg) hRv (costRow_get hk)
    obtain ⟨q', hq', hw'⟩ := ixI (pg := pg) (R := den pg) hRv (costRow_get hi)
    have m1 := mul_fits hb (hm.cost hi hk)
    have m2 := mul_fits ha (hm.cost hi hi)
    obtain ⟨R', H', h1, h2⟩ := hr.push (pref X a b i k) (by omega)
    obtain ⟨e, R2, H2, h3, h4, h8⟩ := l26_1_all hF hm (out := out) ha hb hT hC hi d (k + 1) R' _ H' (by omega) h2 (by simp; omega)
    refine ⟨e, R2, H2, Eq.trans ?_ h3, h4, ?_⟩
    · rw [l26_1, den_loop]
      unfold pref at h1
      by_cases c1 : b * costOf X i k < a * costOf X i i
      · have c2 : b * costOf X i k ≤ a * costOf X i i := by omega
        rw [if_pos c1] at h1
        simp [l26_1, b26_0, go_nil, go_last, go_past, go_pastR, go_blkN, go_blkR, go_blkE, go_skip, go_exit, go_ret, go_scope, go_seq, go_reg, go_regd, go_opdN, go_opd, go_opdG, grdd_b, grdd_u, stpd_some, find_some, go_block, go_cond, cnd_b, go_opsN, go_ops, go_opsG, grd_b, grd_u, stp_some, fin_some, up_some, cont_some, k_call, k_mv, k_pick, k_bin, k_eqB, k_eqA, k_not, k_neg, k_conv, k_alloc, k_boxA, k_boxI, k_boxB, k_boxN, k_boxBs, k_ldR, k_ldA, k_ldI, k_ldB, k_stA, k_stI, k_stB, ldC_some, stC_some, k_mkfn, k_slc, k_slcA, k_ixA, k_ixBs, k_ixSl, k_fadr, k_fld, k_ext, k_len, k_app, k_mn, k_mx, k_nilck, k_build, k_bsl1, k_bsl2, b_add, b_sub, b_mul, b_eql, b_neq, b_lss, b_leq, b_gtr, b_geq, Dn.setLast, Dn.getLast, evalO, mapO, Dn.get, putE, keepE, TV.one, TV.isAgg, Dn.part, hlen, e1, e2, hp, hv, hq, hw, hq', hw', m1, m2, c1, c2, h1]
      · rw [if_neg c1] at h1
        by_cases c2 : b * costOf X i k = a * costOf X i i
        · have c3 : b * costOf X i k ≤ a * costOf X i i := by omega
          rw [if_pos c2] at h1
          simp [l26_1, b26_0, go_nil, go_last, go_past, go_pastR, go_blkN, go_blkR, go_blkE, go_skip, go_exit, go_ret, go_scope, go_seq, go_reg, go_regd, go_opdN, go_opd, go_opdG, grdd_b, grdd_u, stpd_some, find_some, go_block, go_cond, cnd_b, go_opsN, go_ops, go_opsG, grd_b, grd_u, stp_some, fin_some, up_some, cont_some, k_call, k_mv, k_pick, k_bin, k_eqB, k_eqA, k_not, k_neg, k_conv, k_alloc, k_boxA, k_boxI, k_boxB, k_boxN, k_boxBs, k_ldR, k_ldA, k_ldI, k_ldB, k_stA, k_stI, k_stB, ldC_some, stC_some, k_mkfn, k_slc, k_slcA, k_ixA, k_ixBs, k_ixSl, k_fadr, k_fld, k_ext, k_len, k_app, k_mn, k_mx, k_nilck, k_build, k_bsl1, k_bsl2, b_add, b_sub, b_mul, b_eql, b_neq, b_lss, b_leq, b_gtr, b_geq, Dn.setLast, Dn.getLast, evalO, mapO, Dn.get, putE, keepE, TV.one, TV.isAgg, Dn.part, hlen, e1, e2, hp, hv, hq, hw, hq', hw', m1, m2, c1, c3, h1]
        · have c3 : ¬ b * costOf X i k ≤ a * costOf X i i := by omega
          rw [if_neg c2] at h1
          simp [l26_1, b26_0, go_nil, go_last, go_past, go_pastR, go_blkN, go_blkR, go_blkE, go_skip, go_exit, go_ret, go_scope, go_seq, go_reg, go_regd, go_opdN, go_opd, go_opdG, grdd_b, grdd_u, stpd_some, find_some, go_block, go_cond, cnd_b, go_opsN, go_ops, go_opsG, grd_b, grd_u, stp_some, fin_some, up_some, cont_some, k_call, k_mv, k_pick, k_bin, k_eqB, k_eqA, k_not, k_neg, k_conv, k_alloc, k_boxA, k_boxI, k_boxB, k_boxN, k_boxBs, k_ldR, k_ldA, k_ldI, k_ldB, k_stA, k_stI, k_stB, ldC_some, stC_some, k_mkfn, k_slc, k_slcA, k_ixA, k_ixBs, k_ixSl, k_fadr, k_fld, k_ext, k_len, k_app, k_mn, k_mx, k_nilck, k_build, k_bsl1, k_bsl2, b_add, b_sub, b_mul, b_eql, b_neq, b_lss, b_leq, b_gtr, b_geq, Dn.setLast, Dn.getLast, evalO, mapO, Dn.get, putE, keepE, TV.one, TV.isAgg, Dn.part, hlen, e1, e2, hp, hv, hq, hw, hq', hw', m1, m2, c1, c3, h1]
    · rw [range_drop hk, List.map_cons]
      simpa [List.append_assoc] using h8

theorem keep_get {ks : List Nat} {e e' : Env} (h : keepE ks e = e') {s : Nat} (hs : s ∈ ks) {v : TV} (hv : Dn.get e' s = some v) : Dn.get e s = some v := by
  rw [← hv, ← h, get_keepE_mem hs]

theorem l26_3_all {pg : Pg} (hF : Free pg) {X : List Obs} {g : Nat} (hm : Market X g) {T C : TV} {a b : Int} (ha : 0 ≤ a ∧ a ≤ 1000000) (hb : 0 ≤ b ∧ b ≤ 1000000) (hT : Rws T X) (hC : C = (elR false).lt false (costs X)) : ∀ (d i : Nat) (out : TV) (ls : List (List Int)) (H : Heap), i + d = X.length → Nest elI H out ls → ls.length = i →
    ∃ e out' H', den pg l26_3 [(0, T), (1, .i .i64 a), (2, .i .i64 b), (7, C), (8, out), (9, .i .i64 (i : Int))] H = some ⟨.exit 0, e, H'⟩ ∧ Dn.get e 8 = some out' ∧ Nest elI H' out' (ls ++ ((List.range X.length).drop i).map (prefRow X a b))
  | 0, i, out, ls, H, h, ho, hl => by
    have e1 : ¬ ((i : Int) < (X.length : Int)) := by omega
    have hlen := hT.len
    refine ⟨[(0, T), (1, .i .i64 a), (2, .i .i64 b), (7, C), (8, out), (9, .i .i64 (i : Int)), (18, .b false)], out, H, ?_, rfl, ?_⟩
    · rw [l26_3, den_loop]
      simp [b26_2, go_nil, go_last, go_past, go_pastR, go_blkN, go_blkR, go_blkE, go_skip, go_exit, go_ret, go_scope, go_seq, go_reg, go_regd, go_opdN, go_opd, go_opdG, grdd_b, grdd_u, stpd_some, find_some, go_block, go_cond, cnd_b, go_opsN, go_ops, go_opsG, grd_b, grd_u, stp_some, fin_some, up_some, cont_some, k_call, k_mv, k_pick, k_bin, k_eqB, k_eqA, k_not, k_neg, k_conv, k_alloc, k_boxA, k_boxI, k_boxB, k_boxN, k_boxBs, k_ldR, k_ldA, k_ldI, k_ldB, k_stA, k_stI, k_stB, ldC_some, stC_some, k_mkfn, k_slc, k_slcA, k_ixA, k_ixBs, k_ixSl, k_fadr, k_fld, k_ext, k_len, k_app, k_mn, k_mx, k_nilck, k_build, k_bsl1, k_bsl2, b_add, b_sub, b_mul, b_eql, b_neq, b_lss, b_leq, b_gtr, b_geq, Dn.setLast, Dn.getLast, evalO, mapO, Dn.get, putE, keepE, TV.one, TV.isAgg, Dn.part, hlen, e1]
    · rw [List.drop_eq_nil_of_le (by simp; omega)]; simpa using ho
  | d + 1, i, out, ls, H, h, ho, hl => by
    have hi : i < X.length := by omega
    have hn5 := hm.n5
    have e1 : ((i : Int) < (X.length : Int)) := by omega
    have e2 : wrapR .i64 ((i : Int) + 1) = .i .i64 ((i : Int) + 1) := wrapR_i64 (by omega)
    have hlen := hT.len
    obtain ⟨e, R, H1, h1, hk, h2⟩ := l26_1_all hF hm (out := out) ha hb hT hC hi X.length 0 .nilsl [] H (by omega) (RowInv.nil H) rfl
    simp only [Int.natCast_zero] at h1
    rw [List.nil_append, show ((List.range X.length).drop 0).map (pref X a b i) = prefRow X a b i from rfl] at h2
    have g0 := keep_get hk (s := 0) (by simp) rfl
    have g1 := keep_get hk (s := 1) (by simp) rfl
    have g2 := keep_get hk (s := 2) (by simp) rfl
    have g7 := keep_get hk (s := 7) (by simp) rfl
    have g8 := keep_get hk (s := 8) (by simp) rfl
    have g9 := keep_get hk (s := 9) (by simp) rfl
    have g10 := keep_get hk (s := 10) (by simp) rfl
    obtain ⟨o1, o2, o3⟩ := Own_one h2.own
    have kb := k_bslC (pg := pg) (R := den pg) o1 o3 H1
    obtain ⟨out', H', h3, h4, h5, _, _⟩ := (ho.mono (H' := H1) h2.old).app h2.own (fun id hid he => by have := h2.new id hid; have := ho.lt id he; omega) (by omega)
    obtain ⟨e', out2, H2, h6, h7, h8⟩ := l26_3_all hF hm ha hb hT hC d (i + 1) out' _ H' (by omega) h4 (by simp; omega)
    refine ⟨e', out2, H2, Eq.trans ?_ h6, h7, ?_⟩
    · rw [l26_3, den_loop]
      simp [l26_3, b26_2, go_nil, go_last, go_past, go_pastR, go_blkN, go_blkR, go_blkE, go_skip, go_exit, go_ret, go_scope, go_seq, go_reg, go_regd, go_opdN, go_opd, go_opdG, grdd_b, grdd_u, stpd_some, find_some, go_block, go_cond, cnd_b, go_opsN, go_ops, go_opsG, grd_b, grd_u, stp_some, fin_some, up_some, cont_some, k_call, k_mv, k_pick, k_bin, k_eqB, k_eqA, k_not, k_neg, k_conv, k_alloc, k_boxA, k_boxI, k_boxB, k_boxN, k_boxBs, k_ldR, k_ldA, k_ldI, k_ldB, k_stA, k_stI, k_stB, ldC_some, stC_some, k_mkfn, k_slc, k_slcA, k_ixA, k_ixBs, k_ixSl, k_fadr, k_fld, k_ext, k_len, k_app, k_mn, k_mx, k_nilck, k_build, k_bsl1, k_bsl2, b_add, b_sub, b_mul, b_eql, b_neq, b_lss, b_leq, b_gtr, b_geq, Dn.setLast, Dn.getLast, evalO, mapO, Dn.get, putE, keepE, TV.one, TV.isAgg, Dn.part, hlen, e1, e2, go_denK (c := l26_1) rfl, h1, g0, g1, g2, g7, g8, g9, g10, kb, h3]
    · rw [range_drop hi, List.map_cons]
      simpa [List.append_assoc] using h8

theorem fn26 {pg : Pg} (hF : Free pg) {X : List Obs} {g : Nat} (hm : Market X g) {T : TV} (hT : Rws T X) {a b : Int} (ha : 0 ≤ a ∧ a ≤ 1000000) (hb : 0 ≤ b ∧ b ≤ 1000000) : PFn pg 26 [T, .i .i64 a, .i .i64 b] ((elR false).lt false (prefs X a b)) := by
  obtain ⟨e, out', H', h1, h2, h3⟩ := l26_3_all hF hm ha hb hT rfl X.length 0 .nilsl [] [] (by omega) (Nest.nil _) rfl
  simp only [Int.natCast_zero] at h1
  rw [List.nil_append, show ((List.range X.length).drop 0).map (prefRow X a b) = prefs X a b from rfl] at h3
  have c37 := call37 hF hm hT []
  refine .of_go (x := .ret) (e := [(6, out')]) (H' := H') (vs := [out']) (hF.S _ _ (by decide)) (d := d26) (by rw [hF.F]; rfl) rfl ?_ (.inl rfl) rfl (by rw [← elRw_I]; exact h3.fin elI_flat 5)
  simp [d26, c26, zipE, go_nil, go_last, go_past, go_pastR, go_blkN, go_blkR, go_blkE, go_skip, go_exit, go_ret, go_scope, go_seq, go_reg, go_regd, go_opdN, go_opd, go_opdG, grdd_b, grdd_u, stpd_some, find_some, go_block, go_cond, cnd_b, go_opsN, go_ops, go_opsG, grd_b, grd_u, stp_some, fin_some, up_some, cont_some, k_call, k_mv, k_pick, k_bin, k_eqB, k_eqA, k_not, k_neg, k_conv, k_alloc, k_boxA, k_boxI, k_boxB, k_boxN, k_boxBs, k_ldR, k_ldA, k_ldI, k_ldB, k_stA, k_stI, k_stB, ldC_some, stC_some, k_mkfn, k_slc, k_slcA, k_ixA, k_ixBs, k_ixSl, k_fadr, k_fld, k_ext, k_len, k_app, k_mn, k_mx, k_nilck, k_build, k_bsl1, k_bsl2, b_add, b_sub, b_mul, b_eql, b_neq, b_lss, b_leq, b_gtr, b_geq, Dn.setLast, Dn.getLast, evalO, mapO, Dn.get, putE, keepE, TV.one, TV.isAgg, Dn.part, c37, go_denK (c := l26_3) rfl, h1, h2]

/-! lists and tables compared: the same ones -/

theorem l22_all {pg : Pg} {A B : TV} {l : List Int} (hA : ∀ H, elI.View H A l) (hB : ∀ H, elI.View H B l) (hl : l.length ≤ 1000000) {H : Heap} : ∀ (k i : Nat), i + k = l.length →
    ∃ e, den pg l22_1 [(0, A), (1, B), (5, .i .i64 (i : Int))] H = some ⟨.exit 0, e, H⟩
  | 0, i, h => by
    have e1 : ¬ ((i : Int) < (l.length : Int)) := by omega
    have hlen := (hA H).lenK
    refine ⟨[(0, A), (1, B), (5, .i .i64 (i : Int)), (14, .b false)], ?_⟩
    rw [l22_1, den_loop]
    simp [b22_0, go_nil, go_last, go_past, go_pastR, go_blkN, go_blkR, go_blkE, go_skip, go_exit, go_ret, go_scope, go_seq, go_reg, go_regd, go_opdN, go_opd, go_opdG, grdd_b, grdd_u, stpd_some, find_some, go_block, go_cond, cnd_b, go_opsN, go_ops, go_opsG, grd_b, grd_u, stp_some, fin_some, up_some, cont_some, k_call, k_mv, k_pick, k_bin, k_eqB, k_eqA, k_not, k_neg, k_conv, k_alloc, k_boxA, k_boxI, k_boxB, k_boxN, k_boxBs, k_ldR, k_ldA, k_ldI, k_ldB, k_stA, k_stI, k_stB, ldC_some, stC_some, k_mkfn, k_slc, k_slcA, k_ixA, k_ixBs, k_ixSl, k_fadr, k_fld, k_ext, k_len, k_app, k_mn, k_mx, k_nilck, k_build, k_bsl1, k_bsl2, b_add, b_sub, b_mul, b_eql, b_neq, b_lss, b_leq, b_gtr, b_geq, Dn.setLast, Dn.getLast, evalO, mapO, Dn.get, putE, keepE, TV.one, TV.isAgg, Dn.part, hlen, e1]
  | k + 1, i, h => by
    have hi : i < l.length := by omega
    have e1 : ((i : Int) < (l.length : Int)) := by omega
    have e2 : wrapR .i64 ((i : Int) + 1) = .i .i64 ((i : Int) + 1) := wrapR_i64 (by omega)
    have hlen := (hA H).lenK
    obtain ⟨p, hp, hv⟩ := ixI (pg := pg) (R := den pg) (hA H) (List.getElem?_eq_getElem hi)
    obtain ⟨q, hq, hw⟩ := ixI (pg := pg) (R := den pg) (hB H) (List.getElem?_eq_getElem hi)
    obtain ⟨e, h1⟩ := l22_all (pg := pg) hA hB hl (H := H) k (i + 1) (by omega)
    refine ⟨e, Eq.trans ?_ h1⟩
    rw [l22_1, den_loop]
    simp [l22_1, b22_0, go_nil, go_last, go_past, go_pastR, go_blkN, go_blkR, go_blkE, go_skip, go_exit, go_ret, go_scope, go_seq, go_reg, go_regd, go_opdN, go_opd, go_opdG, grdd_b, grdd_u, stpd_some, find_some, go_block, go_cond, cnd_b, go_opsN, go_ops, go_opsG, grd_b, grd_u, stp_some, fin_some, up_some, cont_some, k_call, k_mv, k_pick, k_bin, k_eqB, k_eqA, k_not, k_neg, k_conv, k_alloc, k_boxA, k_boxI, k_boxB, k_boxN, k_boxBs, k_ldR, k_ldA, k_ldI, k_ldB, k_stA, k_stI, k_stB, ldC_some, stC_some, k_mkfn, k_slc, k_slcA, k_ixA, k_ixBs, k_ixSl, k_fadr, k_fld, k_ext, k_len, k_app, k_mn, k_mx, k_nilck, k_build, k_bsl1, k_bsl2, b_add, b_sub, b_mul, b_eql, b_neq, b_lss, b_leq, b_gtr, b_geq, Dn.setLast, Dn.getLast, evalO, mapO, Dn.get, putE, keepE, TV.one, TV.isAgg, Dn.part, hlen, e1, e2, hp, hv, hq, hw]

theorem fn22 {pg : Pg} (hF : Free pg) {A B : TV} {l : List Int} (hA : SV A l) (hB : SV B l) (hl : l.length ≤ 1000000) : PFn pg 22 [A, B] (.b true) := by
  have h0 := (hA.view []).lenK
  have h1 := (hB.view []).lenK
  obtain ⟨e, h2⟩ := l22_all (pg := pg) (fun H => hA.view H) (fun H => hB.view H) hl (H := []) l.length 0 (by omega)
  simp only [Int.natCast_zero] at h2
  refine .of1 (x := .ret) (e := [(4, .b true)]) (H' := []) (hF.S _ _ (by decide)) (d := d22) (by rw [hF.F]; rfl) rfl ?_ (.inl rfl) rfl (by simp [sn_i, sn_b, sn_nil, sn8_i, sn8_b, sn8_nil, sn7_i, sn7_b, sn_sl, sn8_sl, slB_some, sn_tup, sn_agg, sn8_agg, mapO, elems])
  simp [d22, c22, zipE, go_nil, go_last, go_past, go_pastR, go_blkN, go_blkR, go_blkE, go_skip, go_exit, go_ret, go_scope, go_seq, go_reg, go_regd, go_opdN, go_opd, go_opdG, grdd_b, grdd_u, stpd_some, find_some, go_block, go_cond, cnd_b, go_opsN, go_ops, go_opsG, grd_b, grd_u, stp_some, fin_some, up_some, cont_some, k_call, k_mv, k_pick, k_bin, k_eqB, k_eqA, k_not, k_neg, k_conv, k_alloc, k_boxA, k_boxI, k_boxB, k_boxN, k_boxBs, k_ldR, k_ldA, k_ldI, k_ldB, k_stA, k_stI, k_stB, ldC_some, stC_some, k_mkfn, k_slc, k_slcA, k_ixA, k_ixBs, k_ixSl, k_fadr, k_fld, k_ext, k_len, k_app, k_mn, k_mx, k_nilck, k_build, k_bsl1, k_bsl2, b_add, b_sub, b_mul, b_eql, b_neq, b_lss, b_leq, b_gtr, b_geq, Dn.setLast, Dn.getLast, evalO, mapO, Dn.get, putE, keepE, TV.one, TV.isAgg, Dn.part, h0, h1, go_denK (c := l22_1) rfl, h2]

theorem call22 {pg : Pg} (hF : Free pg) {A B : TV} {l : List Int} (hA : SV A l) (hB : SV B l) (hl : l.length ≤ 1000000) (H : Heap) : callRun pg (den pg) (.pu []) [.fn 22 [] [], A, B] H = some (.b true, H) := by
  obtain ⟨A', h1, h2⟩ := hA.snap H 7
  obtain ⟨B', h3, h4⟩ := hB.snap H 7
  exact PFn.call (fn22 hF h2 h4 hl) (args := [A, B]) (by simp [snapArgs, h1, h3])

theorem l36_all {pg : Pg} (hF : Free pg) {A B : TV} {b c : Bool} {l : List (List Int)} (hA : ∀ H, (elR b).View H A l) (hB : ∀ H, (elR c).View H B l) (hl : l.length ≤ 1000000) (hr : ∀ r ∈ l, r.length ≤ 1000000) {H : Heap} : ∀ (k i : Nat), i + k = l.length →
    ∃ e, den pg l36_1 [(0, A), (1, B), (5, .i .i64 (i : Int))] H = some ⟨.exit 0, e, H⟩
  | 0, i, h => by
    have e1 : ¬ ((i : Int) < (l.length : Int)) := by omega
    have hlen := (hA H).lenK
    refine ⟨[(0, A), (1, B), (5, .i .i64 (i : Int)), (14, .b false)], ?_⟩
    rw [l36_1, den_loop]
    simp [b36_0, go_nil, go_last, go_past, go_pastR, go_blkN, go_blkR, go_blkE, go_skip, go_exit, go_ret, go_scope, go_seq, go_reg, go_regd, go_opdN, go_opd, go_opdG, grdd_b, grdd_u, stpd_some, find_some, go_block, go_cond, cnd_b, go_opsN, go_ops, go_opsG, grd_b, grd_u, stp_some, fin_some, up_some, cont_some, k_call, k_mv, k_pick, k_bin, k_eqB, k_eqA, k_not, k_neg, k_conv, k_alloc, k_boxA, k_boxI, k_boxB, k_boxN, k_boxBs, k_ldR, k_ldA, k_ldI, k_ldB, k_stA, k_stI, k_stB, ldC_some, stC_some, k_mkfn, k_slc, k_slcA, k_ixA, k_ixBs, k_ixSl, k_fadr, k_fld, k_ext, k_len, k_app, k_mn, k_mx, k_nilck, k_build, k_bsl1, k_bsl2, b_add, b_sub, b_mul, b_eql, b_neq, b_lss, b_leq, b_gtr, b_geq, Dn.setLast, Dn.getLast, evalO, mapO, Dn.get, putE, keepE, TV.one, TV.isAgg, Dn.part, hlen, e1]
  | k + 1, i, h => by
    have hi : i < l.length := by omega
    have e1 : ((i : Int) < (l.length : Int)) := by omega
    have e2 : wrapR .i64 ((i : Int) + 1) = .i .i64 ((i : Int) + 1) := wrapR_i64 (by omega)
    have hlen := (hA H).lenK
    obtain ⟨p, hp, hv⟩ := ixR (pg := pg) (R := den pg) (hA H) (List.getElem?_eq_getElem hi)
    obtain ⟨q, hq, hw⟩ := ixR (pg := pg) (R := den pg) (hB H) (List.getElem?_eq_getElem hi)
    have c22 := call22 hF (.lt b l[i]) (.lt c l[i]) (hr _ (List.getElem_mem hi)) H
    obtain ⟨e, h1⟩ := l36_all hF hA hB hl hr (H := H) k (i + 1) (by omega)
    refine ⟨e, Eq.trans ?_ h1⟩
    rw [l36_1, den_loop]
    simp [l36_1, b36_0, go_nil, go_last, go_past, go_pastR, go_blkN, go_blkR, go_blkE, go_skip, go_exit, go_ret, go_scope, go_seq, go_reg, go_regd, go_opdN, go_opd, go_opdG, grdd_b, grdd_u, stpd_some, find_some, go_block, go_cond, cnd_b, go_opsN, go_ops, go_opsG, grd_b, grd_u, stp_some, fin_some, up_some, cont_some, k_call, k_mv, k_pick, k_bin, k_eqB, k_eqA, k_not, k_neg, k_conv, k_alloc, k_boxA, k_boxI, k_boxB, k_boxN, k_boxBs, k_ldR, k_ldA, k_ldI, k_ldB, k_stA, k_stI, k_stB, ldC_some, stC_some, k_mkfn, k_slc, k_slcA, k_ixA, k_ixBs, k_ixSl, k_fadr, k_fld, k_ext, k_len, k_app, k_mn, k_mx, k_nilck, k_build, k_bsl1, k_bsl2, b_add, b_sub, b_mul, b_eql, b_neq, b_lss, b_leq, b_gtr, b_geq, Dn.setLast, Dn.getLast, evalO, mapO, Dn.get, putE, keepE, TV.one, TV.isAgg, Dn.part, hlen, e1, e2, hp, hv, hq, hw, c22]

theorem fn36 {pg : Pg} (hF : Free pg) {l : List (List Int)} (hl : l.length ≤ 1000000) (hr : ∀ r ∈ l, r.length ≤ 1000000) : PFn pg 36 [(elR true).lt true l, (elR true).lt true l] (.b true) := by
  have h0 := El.lt_len (E := elR true) true l
  obtain ⟨e, h2⟩ := l36_all hF (b := true) (c := true) (fun H => El.lt_view true l H) (fun H => El.lt_view true l H) hl hr (H := []) l.length 0 (by omega)
  simp only [Int.natCast_zero] at h2
  refine .of1 (x := .ret) (e := [(4, .b true)]) (H' := []) (hF.S _ _ (by decide)) (d := d36) (by rw [hF.F]; rfl) rfl ?_ (.inl rfl) rfl (by simp [sn_i, sn_b, sn_nil, sn8_i, sn8_b, sn8_nil, sn7_i, sn7_b, sn_sl, sn8_sl, slB_some, sn_tup, sn_agg, sn8_agg, mapO, elems])
  simp [d36, c36, zipE, go_nil, go_last, go_past, go_pastR, go_blkN, go_blkR, go_blkE, go_skip, go_exit, go_ret, go_scope, go_seq, go_reg, go_regd, go_opdN, go_opd, go_opdG, grdd_b, grdd_u, stpd_some, find_some, go_block, go_cond, cnd_b, go_opsN, go_ops, go_opsG, grd_b, grd_u, stp_some, fin_some, up_some, cont_some, k_call, k_mv, k_pick, k_bin, k_eqB, k_eqA, k_not, k_neg, k_conv, k_alloc, k_boxA, k_boxI, k_boxB, k_boxN, k_boxBs, k_ldR, k_ldA, k_ldI, k_ldB, k_stA, k_stI, k_stB, ldC_some, stC_some, k_mkfn, k_slc, k_slcA, k_ixA, k_ixBs, k_ixSl, k_fadr, k_fld, k_ext, k_len, k_app, k_mn, k_mx, k_nilck, k_build, k_bsl1, k_bsl2, b_add, b_sub, b_mul, b_eql, b_neq, b_lss, b_leq, b_gtr, b_geq, Dn.setLast, Dn.getLast, evalO, mapO, Dn.get, putE, keepE, TV.one, TV.isAgg, Dn.part, h0, go_denK (c := l36_1) rfl, h2]

end Go.Proofs.Tryd.Dn

/-
  The program's costs and tastes.
-/

namespace Go.Proofs.Tryd.Dn
open Go.Dn

theorem costF_in {X : List Obs} {i k : Nat} (hi : i < X.length) (hk : k < X.length) : costF X i k = costOf X i k := by
  unfold costF; rw [if_pos ⟨hi, hk⟩]

theorem rowView {X : List Obs} {g : Nat} (hm : Market X g) {M : Nat} {H : Heap} (h : H[M]? = some (.cells (mX X) true)) {i : Nat} (hi : i < X.length) :
    elI.View H (.sl M (1 + i * 5) 1 false X.length (some 5)) (costRow X i) := by
  have hn5 := hm.n5
  have hcl : (costRow X i).length = X.length := by simp [costRow]
  refine .inr (.inr ⟨M, 1 + i * 5, some 5, mX X, true, by rw [hcl]; rfl, by rw [hcl]; simpa using hn5, h, ?_, ?_⟩)
  · rw [hcl, mX, mC_len]; show 1 + i * 5 + X.length * 1 ≤ 26; omega
  · rw [hcl, elI_flat_map]
    show ((mX X).drop (1 + i * 5)).take (X.length * 1) = _
    rw [Nat.mul_one]
    apply List.ext_getElem?
    intro k
    by_cases hk : k < X.length
    · rw [List.getElem?_take, if_pos hk, List.getElem?_drop, mX, mC_at _ _ (by omega) (by omega), costF_in hi hk, List.getElem?_map, costRow_get hk]; rfl
    · rw [List.getElem?_eq_none (by simp; omega), List.getElem?_eq_none (by simp [costRow]; omega)]

/-- a copy of numbers that are not none, in any heap -/
theorem clone_run {pg : Pg} {l : List Int} (hne : l ≠ []) (hl : l.length ≤ 1000000) {t : TV} {H : Heap} (hv : elI.View H t l) (hn : t ≠ .nilsl) :
    dkc pg (den pg) (.eqN 0 false) [t, .nilsl] H = some (.b false, H) ∧
    appRun 1 false 8 (.sl H.length 0 1 false 0 (some 0)) t (H ++ [.cells [] false]) = some (.sl (H.length + 1) 0 1 false l.length none, H ++ [.cells [] false, .cells (elI.flat l) false]) ∧
    RowG elI H.length H (H ++ [.cells [] false, .cells (elI.flat l) false]) (.sl (H.length + 1) 0 1 false l.length none) l := by
  have hlen : 0 < l.length := by cases l <;> simp_all
  have hv' : elI.View (H ++ [.cells [] false]) t l := hv.mono fun id hid => by rw [List.getElem?_append_left (hv.lt id hid)]
  have hfa := elI.flat_all l
  have hfn := elI.flat_len l
  have hsz : elI.sz = 1 := rfl
  have hfl := hv'.flatOf
  rw [hsz] at hfl hfn
  rw [Nat.mul_one] at hfn
  refine ⟨?_, ?_, ?_⟩
  · rcases hv with ⟨rfl, rfl⟩ | ⟨b, rfl⟩ | ⟨id, off, cap, c, ag, rfl, _⟩
    · exact absurd rfl hn
    · rfl
    · rfl
  · unfold appRun
    rw [hv'.lenOf, Option.bind_some, hfl, Option.bind_some]
    simp only [lenOf, Option.bind_some, Nat.zero_add, Nat.mul_one]
    rw [if_pos ⟨by omega, hfa, hfn⟩, if_neg (by omega)]
    simp only [if_true, getLast, Nat.zero_add]
    rw [if_pos (by simp), if_neg (by omega)]
    simp
  · refine ⟨.inr ⟨hne, H.length + 1, false, elI.flat l, rfl, ?_, by rw [hsz, Nat.mul_one, hfn]; exact Nat.le_refl _, by rw [hsz, Nat.mul_one, ← hfn, List.take_length]⟩, fun j hj => ?_, fun id hid => ?_, by simp⟩
    · rw [List.getElem?_append_right (by omega)]; simp
    · rw [List.getElem?_append_left hj]
    · cases hid; omega

theorem body71 {pg : Pg} (hF : Free pg) {l : List Int} (hne : l ≠ []) (hl : l.length ≤ 1000000) {t : TV} {H : Heap} (hv : elI.View H t l) (hn : t ≠ .nilsl) :
    ∃ R H1, bodyRun pg (den pg) 71 [t] H = some (R, H1) ∧ RowG elI H.length H H1 R l := by
  obtain ⟨en, happ, hR⟩ := clone_run (pg := pg) hne hl hv hn
  have hb : dkc pg (den pg) (.bsl false [.i .i64 0] false 0 []) [] H = some (.sl H.length 0 1 false 0 (some 0), H ++ [.cells [] false]) := rfl
  refine ⟨_, _, body_of (x := .ret) (e := [(2, .sl (H.length + 1) 0 1 false l.length none)]) (d := d71) (by rw [hF.F]; rfl) rfl ?_ (.inl rfl) rfl, hR⟩
  simp [d71, c71, zipE, go_nil, go_last, go_past, go_pastR, go_blkN, go_blkR, go_blkE, go_skip, go_exit, go_ret, go_scope, go_seq, go_reg, go_regd, go_opdN, go_opd, go_opdG, grdd_b, grdd_u, stpd_some, find_some, go_block, go_cond, cnd_b, go_opsN, go_ops, go_opsG, grd_b, grd_u, stp_some, fin_some, up_some, cont_some, k_call, k_mv, k_pick, k_bin, k_eqB, k_eqA, k_not, k_neg, k_conv, k_alloc, k_boxA, k_boxI, k_boxB, k_boxN, k_boxBs, k_ldR, k_ldA, k_ldI, k_ldB, k_stA, k_stI, k_stB, ldC_some, stC_some, k_mkfn, k_slc, k_slcA, k_ixA, k_ixBs, k_ixSl, k_fadr, k_fld, k_ext, k_len, k_app, k_mn, k_mx, k_nilck, k_build, k_bsl1, k_bsl2, b_add, b_sub, b_mul, b_eql, b_neq, b_lss, b_leq, b_gtr, b_geq, Dn.setLast, Dn.getLast, evalO, mapO, Dn.get, putE, keepE, TV.one, TV.isAgg, Dn.part, en, hb, happ]

theorem l34_all {pg : Pg} (hF : Free pg) {X : List Obs} {g : Nat} (hm : Market X g) {M base : Nat} {H0 : Heap} (hMb : M < base) (hM : H0[M]? = some (.cells (mX X) true)) : ∀ (d i : Nat) (out : TV) (ts : List {t : TV // t.one = true}) (ls : List (List Int)) (H : Heap), i + d = X.length → NestB elI base H0 H out ts ls → ls.length = i →
    ∃ e out' H' ts', den pg l34_1 [(4, .ref M 0), (6, out), (19, .i .i64 (X.length : Int)), (20, .i .i64 (i : Int))] H = some ⟨.exit 0, e, H'⟩ ∧ Dn.get e 6 = some out' ∧ NestB elI base H0 H' out' ts' (ls ++ ((List.range X.length).drop i).map (costRow X))
  | 0, i, out, ts, ls, H, h, ho, hl => by
    have e1 : ¬ ((i : Int) < (X.length : Int)) := by omega
    refine ⟨[(4, .ref M 0), (6, out), (19, .i .i64 (X.length : Int)), (20, .i .i64 (i : Int)), (21, .b false)], out, H, ts, ?_, rfl, ?_⟩
    · rw [l34_1, den_loop]
      simp [b34_0, go_nil, go_last, go_past, go_pastR, go_blkN, go_blkR, go_blkE, go_skip, go_exit, go_ret, go_scope, go_seq, go_reg, go_regd, go_opdN, go_opd, go_opdG, grdd_b, grdd_u, stpd_some, find_some, go_block, go_cond, cnd_b, go_opsN, go_ops, go_opsG, grd_b, grd_u, stp_some, fin_some, up_some, cont_some, k_call, k_mv, k_pick, k_bin, k_eqB, k_eqA, k_not, k_neg, k_conv, k_alloc, k_boxA, k_boxI, k_boxB, k_boxN, k_boxBs, k_ldR, k_ldA, k_ldI, k_ldB, k_stA, k_stI, k_stB, ldC_some, stC_some, k_mkfn, k_slc, k_slcA, k_ixA, k_ixBs, k_ixSl, k_fadr, k_fld, k_ext, k_len, k_app, k_mn, k_mx, k_nilck, k_build, k_bsl1, k_bsl2, b_add, b_sub, b_mul, b_eql, b_neq, b_lss, b_leq, b_gtr, b_geq, Dn.setLast, Dn.getLast, evalO, mapO, Dn.get, putE, keepE, TV.one, TV.isAgg, Dn.part, e1]
    · rw [List.drop_eq_nil_of_le (by simp; omega)]; simpa using ho
  | d + 1, i, out, ts, ls, H, h, ho, hl => by
    have hi : i < X.length := by omega
    have hn5 := hm.n5
    have hi5 : i < 5 := by omega
    have hM' : H[M]? = some (.cells (mX X) true) := by rw [ho.old M hMb]; exact hM
    have e1 : ((i : Int) < (X.length : Int)) := by omega
    have e2 : wrapR .i64 ((i : Int) + 1) = .i .i64 ((i : Int) + 1) := wrapR_i64 (by omega)
    have hN := ld_mN (pg := pg) (R := den pg) hM'
    have hcl : (costRow X i).length = X.length := by simp [costRow]
    have hcne : costRow X i ≠ [] := by intro he; rw [he] at hcl; simp at hcl; omega
    have hsl : slcARun false true false 5 1 false (.ref M (1 + i * 5)) [.i .i64 (X.length : Int)] H = some (.sl M (1 + i * 5) 1 false X.length (some 5)) := by
      have h26 : (mX X).length = 26 := by rw [mX, mC_len]
      have h27 : 1 + i * 5 + 5 ≤ 26 := by omega
      have hb3 : bounds3 false true false 5 [.i .i64 (X.length : Int)] = some (0, X.length, none) := by simp [bounds3, bound]
      simp [slcARun, hb3, hM', h26, hn5, h27]
    obtain ⟨R, H1, h71, hR⟩ := body71 hF hcne (by rw [hcl]; omega) (rowView hm hM' hi) (by simp)
    have kb := k_bslC (pg := pg) (R := den pg) (Own_one hR.own).1 (Own_one hR.own).2.2 H1
    obtain ⟨out', H', r, h1, h2⟩ := ho.app hR (by omega)
    obtain ⟨e, out2, H2, ts2, h6, h7, h8⟩ := l34_all hF hm hMb hM d (i + 1) out' _ _ H' (by omega) h2 (by simp; omega)
    refine ⟨e, out2, H2, ts2, Eq.trans ?_ h6, h7, ?_⟩
    · rw [l34_1, den_loop]
      simp [l34_1, b34_0, go_nil, go_last, go_past, go_pastR, go_blkN, go_blkR, go_blkE, go_skip, go_exit, go_ret, go_scope, go_seq, go_reg, go_regd, go_opdN, go_opd, go_opdG, grdd_b, grdd_u, stpd_some, find_some, go_block, go_cond, cnd_b, go_opsN, go_ops, go_opsG, grd_b, grd_u, stp_some, fin_some, up_some, cont_some, k_call, k_mv, k_pick, k_bin, k_eqB, k_eqA, k_not, k_neg, k_conv, k_alloc, k_boxA, k_boxI, k_boxB, k_boxN, k_boxBs, k_ldR, k_ldA, k_ldI, k_ldB, k_stA, k_stI, k_stB, ldC_some, stC_some, k_mkfn, k_slc, k_slcA, k_ixA, k_ixBs, k_ixSl, k_fadr, k_fld, k_ext, k_len, k_app, k_mn, k_mx, k_nilck, k_build, k_bsl1, k_bsl2, b_add, b_sub, b_mul, b_eql, b_neq, b_lss, b_leq, b_gtr, b_geq, Dn.setLast, Dn.getLast, evalO, mapO, Dn.get, putE, keepE, TV.one, TV.isAgg, Dn.part, e1, e2, hN, hi5, hsl, sh_fn, h71, kb, h1]
    · rw [range_drop hi, List.map_cons]
      simpa [List.append_assoc] using h8

theorem body34 {pg : Pg} (hF : Free pg) {X : List Obs} {g : Nat} (hm : Market X g) {T : TV} (hT : Rws T X) (H : Heap) : ∃ out ts H' H1, bodyRun pg (den pg) 34 [T] H = some (.tup [out, .i .i64 0], H') ∧ H.length ≤ H1.length ∧ (∀ j, j < H.length → H1[j]? = H[j]?) ∧ NestB elI H1.length H1 H' out ts (costs X) := by
  obtain ⟨H1, h1, h2, h3, h4⟩ := body53 hF hm (P := .nilsl) (P' := .nilsl) (ps := []) hT (.inl ⟨rfl, rfl⟩) (by simp) (by simp) (H := H) (sn_nil _ _)
  have hN := ld_mN (pg := pg) (R := den pg) h2
  obtain ⟨e, out', H', ts, h5, h6, h7⟩ := l34_all hF hm (base := H1.length) (H0 := H1) h3 h2 X.length 0 .nilsl [] [] H1 (by omega) (.nil H1) rfl
  simp only [Int.natCast_zero] at h5
  rw [List.nil_append, show ((List.range X.length).drop 0).map (costRow X) = costs X from rfl] at h7
  refine ⟨out', ts, H', H1, body_ofs (x := .ret) (e := [(2, out'), (3, .i .i64 0)]) (vs := [out', .i .i64 0]) (d := d34) (by rw [hF.F]; rfl) rfl ?_ (.inl rfl) rfl, by omega, h4, h7⟩
  simp [d34, c34, zipE, go_nil, go_last, go_past, go_pastR, go_blkN, go_blkR, go_blkE, go_skip, go_exit, go_ret, go_scope, go_seq, go_reg, go_regd, go_opdN, go_opd, go_opdG, grdd_b, grdd_u, stpd_some, find_some, go_block, go_cond, cnd_b, go_opsN, go_ops, go_opsG, grd_b, grd_u, stp_some, fin_some, up_some, cont_some, k_call, k_mv, k_pick, k_bin, k_eqB, k_eqA, k_not, k_neg, k_conv, k_alloc, k_boxA, k_boxI, k_boxB, k_boxN, k_boxBs, k_ldR, k_ldA, k_ldI, k_ldB, k_stA, k_stI, k_stB, ldC_some, stC_some, k_mkfn, k_slc, k_slcA, k_ixA, k_ixBs, k_ixSl, k_fadr, k_fld, k_ext, k_len, k_app, k_mn, k_mx, k_nilck, k_build, k_bsl1, k_bsl2, b_add, b_sub, b_mul, b_eql, b_neq, b_lss, b_leq, b_gtr, b_geq, Dn.setLast, Dn.getLast, evalO, mapO, Dn.get, putE, keepE, TV.one, TV.isAgg, Dn.part, sh_fn, h1, hN, go_denK (c := l34_1) rfl, h5, h6]

/-- a share, as a value -/
def shV (a b : Int) : TV := .agg [.i .i64 a, .i .i64 b]

theorem k_nilckB {pg : Pg} {R : Rec} (b : Bool) (v : TV) (H : Heap) : dkc pg R .nilck [.bp b v] H = some (.bp b v, H) := rfl

theorem fn74 {pg : Pg} (hF : Free pg) {X : List Obs} {g : Nat} (hm : Market X g) {i k : Nat} (hi : i < X.length) (hk : k < X.length) {a b : Int} (ha : 0 ≤ a ∧ a ≤ 1000000) (hb : 0 ≤ b ∧ b ≤ 1000000) : PFn pg 74 [mV X, .i .i64 (i : Int), .i .i64 (k : Int), shV a b] (.i .i64 (pref X a b i k)) := by
  have hn5 := hm.n5
  have t1 := fadr_mT (pg := pg) (R := den pg) true (X.length : Int) (costF X)
  have t2 := ixA_tab (pg := pg) (R := den pg) true (costF X) (i := i) (by omega)
  have t3 := ixA_row (pg := pg) (R := den pg) true (costF X) i (k := i) (by omega)
  have t4 := ixA_row (pg := pg) (R := den pg) true (costF X) i (k := k) (by omega)
  have m1 := mul_fits hb (hm.cost hi hk)
  have m2 := mul_fits ha (hm.cost hi hi)
  rw [costF_in hi hi] at t3
  rw [costF_in hi hk] at t4
  refine .of1 (x := .ret) (e := [(8, .i .i64 (pref X a b i k))]) (H' := [.cells [.i .i64 a, .i .i64 b] true]) (hF.S _ _ (by decide)) (d := d74) (by rw [hF.F]; rfl) rfl ?_ (.inl rfl) rfl (by simp [sn_i, sn_b, sn_nil, sn8_i, sn8_b, sn8_nil, sn7_i, sn7_b, sn_sl, sn8_sl, slB_some, sn_tup, sn_agg, sn8_agg, mapO, elems])
  unfold pref
  by_cases c1 : b * costOf X i k < a * costOf X i i
  · simp [d74, c74, zipE, go_nil, go_last, go_past, go_pastR, go_blkN, go_blkR, go_blkE, go_skip, go_exit, go_ret, go_scope, go_seq, go_reg, go_regd, go_opdN, go_opd, go_opdG, grdd_b, grdd_u, stpd_some, find_some, go_block, go_cond, cnd_b, go_opsN, go_ops, go_opsG, grd_b, grd_u, stp_some, fin_some, up_some, cont_some, k_call, k_mv, k_pick, k_bin, k_eqB, k_eqA, k_not, k_neg, k_conv, k_alloc, k_boxA, k_boxI, k_boxB, k_boxN, k_boxBs, k_ldR, k_ldA, k_ldI, k_ldB, k_stA, k_stI, k_stB, ldC_some, stC_some, k_mkfn, k_slc, k_slcA, k_ixA, k_ixBs, k_ixSl, k_fadr, k_fld, k_ext, k_len, k_app, k_mn, k_mx, k_nilck, k_build, k_bsl1, k_bsl2, b_add, b_sub, b_mul, b_eql, b_neq, b_lss, b_leq, b_gtr, b_geq, Dn.setLast, Dn.getLast, evalO, mapO, Dn.get, putE, keepE, TV.one, TV.isAgg, Dn.part, mV, mX, shV, k_nilckB, t1, t2, t3, t4, m1, m2, c1]
  · by_cases c2 : b * costOf X i k = a * costOf X i i
    · have c3 : ¬ a * costOf X i i < b * costOf X i k := by omega
      rw [if_neg c1, if_pos c2]
      simp [d74, c74, zipE, go_nil, go_last, go_past, go_pastR, go_blkN, go_blkR, go_blkE, go_skip, go_exit, go_ret, go_scope, go_seq, go_reg, go_regd, go_opdN, go_opd, go_opdG, grdd_b, grdd_u, stpd_some, find_some, go_block, go_cond, cnd_b, go_opsN, go_ops, go_opsG, grd_b, grd_u, stp_some, fin_some, up_some, cont_some, k_call, k_mv, k_pick, k_bin, k_eqB, k_eqA, k_not, k_neg, k_conv, k_alloc, k_boxA, k_boxI, k_boxB, k_boxN, k_boxBs, k_ldR, k_ldA, k_ldI, k_ldB, k_stA, k_stI, k_stB, ldC_some, stC_some, k_mkfn, k_slc, k_slcA, k_ixA, k_ixBs, k_ixSl, k_fadr, k_fld, k_ext, k_len, k_app, k_mn, k_mx, k_nilck, k_build, k_bsl1, k_bsl2, b_add, b_sub, b_mul, b_eql, b_neq, b_lss, b_leq, b_gtr, b_geq, Dn.setLast, Dn.getLast, evalO, mapO, Dn.get, putE, keepE, TV.one, TV.isAgg, Dn.part, mV, mX, shV, k_nilckB, t1, t2, t3, t4, m1, m2, c1, c2]
    · rw [if_neg c1, if_neg c2]
      simp [d74, c74, zipE, go_nil, go_last, go_past, go_pastR, go_blkN, go_blkR, go_blkE, go_skip, go_exit, go_ret, go_scope, go_seq, go_reg, go_regd, go_opdN, go_opd, go_opdG, grdd_b, grdd_u, stpd_some, find_some, go_block, go_cond, cnd_b, go_opsN, go_ops, go_opsG, grd_b, grd_u, stp_some, fin_some, up_some, cont_some, k_call, k_mv, k_pick, k_bin, k_eqB, k_eqA, k_not, k_neg, k_conv, k_alloc, k_boxA, k_boxI, k_boxB, k_boxN, k_boxBs, k_ldR, k_ldA, k_ldI, k_ldB, k_stA, k_stI, k_stB, ldC_some, stC_some, k_mkfn, k_slc, k_slcA, k_ixA, k_ixBs, k_ixSl, k_fadr, k_fld, k_ext, k_len, k_app, k_mn, k_mx, k_nilck, k_build, k_bsl1, k_bsl2, b_add, b_sub, b_mul, b_eql, b_neq, b_lss, b_leq, b_gtr, b_geq, Dn.setLast, Dn.getLast, evalO, mapO, Dn.get, putE, keepE, TV.one, TV.isAgg, Dn.part, mV, mX, shV, k_nilckB, t1, t2, t3, t4, m1, m2, c1, c2]

/-- and with the market as a value -/
theorem call74v {pg : Pg} (hF : Free pg) {X : List Obs} {g : Nat} (hm : Market X g) {i k : Nat} (hi : i < X.length) (hk : k < X.length) {a b : Int} (ha : 0 ≤ a ∧ a ≤ 1000000) (hb : 0 ≤ b ∧ b ≤ 1000000) (H : Heap) :
    callRun pg (den pg) (.pu []) [.fn 74 [] [], mV X, .i .i64 (i : Int), .i .i64 (k : Int), .agg [.i .i64 a, .i .i64 b]] H = some (.i .i64 (pref X a b i k), H) := by
  have h1 := mV_snap X H 6
  exact PFn.call (fn74 hF hm hi hk ha hb) (args := [mV X, .i .i64 (i : Int), .i .i64 (k : Int), .agg [.i .i64 a, .i .i64 b]]) (by simp [snapArgs, sn_i, h1, sn_i, sn_b, sn_nil, sn8_i, sn8_b, sn8_nil, sn7_i, sn7_b, sn_sl, sn8_sl, slB_some, sn_tup, sn_agg, sn8_agg, mapO, elems]; rfl)

end Go.Proofs.Tryd.Dn

/-
  tame makes observations: one number of each.
-/

namespace Go.Proofs.Tryd.Dn
open Go.Dn

theorem wrap_u64 (v : Int) : 0 ≤ IntKind.wrap .u64 v := by
  simp [IntKind.wrap, IntKind.signed, IntKind.bits]; omega

def rem20 (v : Int) : Int := (IntKind.wrap .u64 v).tmod 20
def rem21 (v : Int) : Int := (IntKind.wrap .u64 v).tmod 21
theorem rem20_range (v : Int) : 0 ≤ rem20 v ∧ rem20 v < 20 := by
  unfold rem20
  have := wrap_u64 v
  rw [Int.tmod_eq_emod_of_nonneg this]; omega
theorem rem21_range (v : Int) : 0 ≤ rem21 v ∧ rem21 v < 21 := by
  unfold rem21
  have := wrap_u64 v
  rw [Int.tmod_eq_emod_of_nonneg this]; omega

def pAt (l : List Obs) (i k : Nat) : Int := ((l[i]?.bind fun x => x.1[k]?).map fun v => 1 + rem20 v).getD 1
def bAt (l : List Obs) (i k : Nat) : Int := ((l[i]?.bind fun x => x.2[k]?).map fun v => rem21 v).getD 0

theorem pAt_range (l : List Obs) (i k : Nat) : 1 ≤ pAt l i k ∧ pAt l i k ≤ 20 := by
  unfold pAt
  cases l[i]?.bind fun x => x.1[k]? with
  | none => simp
  | some v => have := rem20_range v; simp; omega
theorem bAt_range (l : List Obs) (i k : Nat) : 0 ≤ bAt l i k ∧ bAt l i k ≤ 20 := by
  unfold bAt
  cases l[i]?.bind fun x => x.2[k]? with
  | none => simp
  | some v => have := rem21_range v; simp; omega

abbrev env17 (T g ms out i x so k p b : TV) : Env := [(0, T), (1, g), (2, ms), (7, out), (8, i), (9, x), (10, so), (11, k), (12, p), (13, b)]
abbrev ks17 : List Nat := [0, 1, 2, 7, 8, 9, 10, 11, 12, 13]

theorem q17_1_run {pg : Pg} {T g ms out x so b p : TV} {l : List Obs} {i k : Nat} (hT : Rws T l) (hp : p = .i .i64 1) {e : Env} (he : keepE ks17 e = env17 T g ms out (.i .i64 (i : Int)) x so (.i .i64 (k : Int)) p b) (H : Heap) :
    ∃ e', (∀ K, go pg (den pg) (.c q17_1 :: K) .normal e H = go pg (den pg) K .normal e' H) ∧ keepE ks17 e' = env17 T g ms out (.i .i64 (i : Int)) x so (.i .i64 (k : Int)) (.i .i64 (pAt l i k)) b := by
  subst hp
  have hlen := hT.len
  have g0 := keep_get he (s := 0) (by simp) rfl
  have g1 := keep_get he (s := 1) (by simp) rfl
  have g2 := keep_get he (s := 2) (by simp) rfl
  have g7 := keep_get he (s := 7) (by simp) rfl
  have g8 := keep_get he (s := 8) (by simp) rfl
  have g9 := keep_get he (s := 9) (by simp) rfl
  have g10 := keep_get he (s := 10) (by simp) rfl
  have g11 := keep_get he (s := 11) (by simp) rfl
  have g12 := keep_get he (s := 12) (by simp) rfl
  have g13 := keep_get he (s := 13) (by simp) rfl
  by_cases hi : i < l.length
  · have e1 : ((i : Int) < (l.length : Int)) := by omega
    obtain ⟨bo, a, c, hix, ha, hc⟩ := hT.ix (pg := pg) (R := den pg) (List.getElem?_eq_getElem hi) H
    obtain ⟨f1, f2⟩ := k_fadrP (pg := pg) (R := den pg) bo a c ha.noagg hc.noagg H
    have d1 := k_ldV (pg := pg) (R := den pg) bo a ha.one H
    have la := (ha.view []).lenK
    by_cases hk : k < l[i].1.length
    · have e2 : ((k : Int) < (l[i].1.length : Int)) := by omega
      obtain ⟨p, hp, hv⟩ := ixI (pg := pg) (R := den pg) (ha.view H) (List.getElem?_eq_getElem hk)
      have hpa : pAt l i k = 1 + rem20 (l[i].1[k]) := by
        unfold pAt
        rw [List.getElem?_eq_getElem hi, Option.bind_some, List.getElem?_eq_getElem hk]; rfl
      have hr := rem20_range (l[i].1[k])
      have e3 : ∀ v, wrapR .u64 v = .i .u64 (IntKind.wrap .u64 v) := fun _ => rfl
      have e4 : wrapR .i64 ((IntKind.wrap .u64 (l[i].1[k])).tmod 20) = .i .i64 (rem20 (l[i].1[k])) := wrapR_i64 (n := rem20 (l[i].1[k])) (by omega)
      have e5 : wrapR .i64 (1 + rem20 (l[i].1[k])) = .i .i64 (1 + rem20 (l[i].1[k])) := wrapR_i64 (by omega)
      rw [hpa]
      refine ⟨env17 T g ms out (.i .i64 (i : Int)) x so (.i .i64 (k : Int)) (.i .i64 (1 + rem20 (l[i].1[k]))) b, fun K => ?_, rfl⟩
      simp [q17_1, go_nil, go_last, go_past, go_pastR, go_blkN, go_blkR, go_blkE, go_skip, go_exit, go_ret, go_scope, go_seq, go_reg, go_regd, go_opdN, go_opd, go_opdG, grdd_b, grdd_u, stpd_some, find_some, go_block, go_cond, cnd_b, go_opsN, go_ops, go_opsG, grd_b, grd_u, stp_some, fin_some, up_some, cont_some, k_call, k_mv, k_pick, k_bin, k_eqB, k_eqA, k_not, k_neg, k_conv, k_alloc, k_boxA, k_boxI, k_boxB, k_boxN, k_boxBs, k_ldR, k_ldA, k_ldI, k_ldB, k_stA, k_stI, k_stB, ldC_some, stC_some, k_mkfn, k_slc, k_slcA, k_ixA, k_ixBs, k_ixSl, k_fadr, k_fld, k_ext, k_len, k_app, k_mn, k_mx, k_nilck, k_build, k_bsl1, k_bsl2, b_add, b_sub, b_mul, b_eql, b_neq, b_lss, b_leq, b_gtr, b_geq, Dn.setLast, Dn.getLast, evalO, mapO, Dn.get, putE, keepE, TV.one, TV.isAgg, Dn.part, g0, g1, g2, g7, g8, g9, g10, g11, g12, g13, hlen, e1, hix, f1, d1, la, e2, hp, hv, e3, e4, e5, b_rem]
    · have e2 : ¬ ((k : Int) < (l[i].1.length : Int)) := by omega
      have hpa : pAt l i k = 1 := by
        unfold pAt
        rw [List.getElem?_eq_getElem hi, Option.bind_some, List.getElem?_eq_none (by omega)]; rfl
      rw [hpa]
      refine ⟨env17 T g ms out (.i .i64 (i : Int)) x so (.i .i64 (k : Int)) (.i .i64 1) b ++ [(52, .b false)], fun K => ?_, rfl⟩
      simp [q17_1, go_nil, go_last, go_past, go_pastR, go_blkN, go_blkR, go_blkE, go_skip, go_exit, go_ret, go_scope, go_seq, go_reg, go_regd, go_opdN, go_opd, go_opdG, grdd_b, grdd_u, stpd_some, find_some, go_block, go_cond, cnd_b, go_opsN, go_ops, go_opsG, grd_b, grd_u, stp_some, fin_some, up_some, cont_some, k_call, k_mv, k_pick, k_bin, k_eqB, k_eqA, k_not, k_neg, k_conv, k_alloc, k_boxA, k_boxI, k_boxB, k_boxN, k_boxBs, k_ldR, k_ldA, k_ldI, k_ldB, k_stA, k_stI, k_stB, ldC_some, stC_some, k_mkfn, k_slc, k_slcA, k_ixA, k_ixBs, k_ixSl, k_fadr, k_fld, k_ext, k_len, k_app, k_mn, k_mx, k_nilck, k_build, k_bsl1, k_bsl2, b_add, b_sub, b_mul, b_eql, b_neq, b_lss, b_leq, b_gtr, b_geq, Dn.setLast, Dn.getLast, evalO, mapO, Dn.get, putE, keepE, TV.one, TV.isAgg, Dn.part, g0, g1, g2, g7, g8, g9, g10, g11, g12, g13, hlen, e1, hix, f1, d1, la, e2]
  · have e1 : ¬ ((i : Int) < (l.length : Int)) := by omega
    have hpa : pAt l i k = 1 := by
      unfold pAt
      rw [List.getElem?_eq_none (by omega)]; rfl
    rw [hpa]
    refine ⟨env17 T g ms out (.i .i64 (i : Int)) x so (.i .i64 (k : Int)) (.i .i64 1) b ++ [(52, .b false)], fun K => ?_, rfl⟩
    simp [q17_1, go_nil, go_last, go_past, go_pastR, go_blkN, go_blkR, go_blkE, go_skip, go_exit, go_ret, go_scope, go_seq, go_reg, go_regd, go_opdN, go_opd, go_opdG, grdd_b, grdd_u, stpd_some, find_some, go_block, go_cond, cnd_b, go_opsN, go_ops, go_opsG, grd_b, grd_u, stp_some, fin_some, up_some, cont_some, k_call, k_mv, k_pick, k_bin, k_eqB, k_eqA, k_not, k_neg, k_conv, k_alloc, k_boxA, k_boxI, k_boxB, k_boxN, k_boxBs, k_ldR, k_ldA, k_ldI, k_ldB, k_stA, k_stI, k_stB, ldC_some, stC_some, k_mkfn, k_slc, k_slcA, k_ixA, k_ixBs, k_ixSl, k_fadr, k_fld, k_ext, k_len, k_app, k_mn, k_mx, k_nilck, k_build, k_bsl1, k_bsl2, b_add, b_sub, b_mul, b_eql, b_neq, b_lss, b_leq, b_gtr, b_geq, Dn.setLast, Dn.getLast, evalO, mapO, Dn.get, putE, keepE, TV.one, TV.isAgg, Dn.part, g0, g1, g2, g7, g8, g9, g10, g11, g12, g13, hlen, e1]

theorem q17_2_run {pg : Pg} {T g ms out x so b p : TV} {l : List Obs} {i k : Nat} (hT : Rws T l) (hb : b = .i .i64 0) {e : Env} (he : keepE ks17 e = env17 T g ms out (.i .i64 (i : Int)) x so (.i .i64 (k : Int)) p b) (H : Heap) :
    ∃ e', (∀ K, go pg (den pg) (.c q17_2 :: K) .normal e H = go pg (den pg) K .normal e' H) ∧ keepE ks17 e' = env17 T g ms out (.i .i64 (i : Int)) x so (.i .i64 (k : Int)) p (.i .i64 (bAt l i k)) := by
  subst hb
  have hlen := hT.len
  have g0 := keep_get he (s := 0) (by simp) rfl
  have g1 := keep_get he (s := 1) (by simp) rfl
  have g2 := keep_get he (s := 2) (by simp) rfl
  have g7 := keep_get he (s := 7) (by simp) rfl
  have g8 := keep_get he (s := 8) (by simp) rfl
  have g9 := keep_get he (s := 9) (by simp) rfl
  have g10 := keep_get he (s := 10) (by simp) rfl
  have g11 := keep_get he (s := 11) (by simp) rfl
  have g12 := keep_get he (s := 12) (by simp) rfl
  have g13 := keep_get he (s := 13) (by simp) rfl
  by_cases hi : i < l.length
  · have e1 : ((i : Int) < (l.length : Int)) := by omega
    obtain ⟨bo, a, c, hix, ha, hc⟩ := hT.ix (pg := pg) (R := den pg) (List.getElem?_eq_getElem hi) H
    obtain ⟨f1, f2⟩ := k_fadrP (pg := pg) (R := den pg) bo a c ha.noagg hc.noagg H
    have d1 := k_ldV (pg := pg) (R := den pg) bo c hc.one H
    have la := (hc.view []).lenK
    by_cases hk : k < l[i].2.length
    · have e2 : ((k : Int) < (l[i].2.length : Int)) := by omega
      obtain ⟨q, hp, hv⟩ := ixI (pg := pg) (R := den pg) (hc.view H) (List.getElem?_eq_getElem hk)
      have hpa : bAt l i k = rem21 (l[i].2[k]) := by
        unfold bAt
        rw [List.getElem?_eq_getElem hi, Option.bind_some, List.getElem?_eq_getElem hk]; rfl
      have hr := rem21_range (l[i].2[k])
      have e3 : ∀ v, wrapR .u64 v = .i .u64 (IntKind.wrap .u64 v) := fun _ => rfl
      have e4 : wrapR .i64 ((IntKind.wrap .u64 (l[i].2[k])).tmod 21) = .i .i64 (rem21 (l[i].2[k])) := wrapR_i64 (n := rem21 (l[i].2[k])) (by omega)
      rw [hpa]
      refine ⟨env17 T g ms out (.i .i64 (i : Int)) x so (.i .i64 (k : Int)) p (.i .i64 (rem21 (l[i].2[k]))), fun K => ?_, rfl⟩
      simp [q17_2, go_nil, go_last, go_past, go_pastR, go_blkN, go_blkR, go_blkE, go_skip, go_exit, go_ret, go_scope, go_seq, go_reg, go_regd, go_opdN, go_opd, go_opdG, grdd_b, grdd_u, stpd_some, find_some, go_block, go_cond, cnd_b, go_opsN, go_ops, go_opsG, grd_b, grd_u, stp_some, fin_some, up_some, cont_some, k_call, k_mv, k_pick, k_bin, k_eqB, k_eqA, k_not, k_neg, k_conv, k_alloc, k_boxA, k_boxI, k_boxB, k_boxN, k_boxBs, k_ldR, k_ldA, k_ldI, k_ldB, k_stA, k_stI, k_stB, ldC_some, stC_some, k_mkfn, k_slc, k_slcA, k_ixA, k_ixBs, k_ixSl, k_fadr, k_fld, k_ext, k_len, k_app, k_mn, k_mx, k_nilck, k_build, k_bsl1, k_bsl2, b_add, b_sub, b_mul, b_eql, b_neq, b_lss, b_leq, b_gtr, b_geq, Dn.setLast, Dn.getLast, evalO, mapO, Dn.get, putE, keepE, TV.one, TV.isAgg, Dn.part, g0, g1, g2, g7, g8, g9, g10, g11, g12, g13, hlen, e1, hix, f2, d1, la, e2, hp, hv, e3, e4, b_rem]
    · have e2 : ¬ ((k : Int) < (l[i].2.length : Int)) := by omega
      have hpa : bAt l i k = 0 := by
        unfold bAt
        rw [List.getElem?_eq_getElem hi, Option.bind_some, List.getElem?_eq_none (by omega)]; rfl
      rw [hpa]
      refine ⟨env17 T g ms out (.i .i64 (i : Int)) x so (.i .i64 (k : Int)) p (.i .i64 0) ++ [(78, .b false)], fun K => ?_, rfl⟩
      simp [q17_2, go_nil, go_last, go_past, go_pastR, go_blkN, go_blkR, go_blkE, go_skip, go_exit, go_ret, go_scope, go_seq, go_reg, go_regd, go_opdN, go_opd, go_opdG, grdd_b, grdd_u, stpd_some, find_some, go_block, go_cond, cnd_b, go_opsN, go_ops, go_opsG, grd_b, grd_u, stp_some, fin_some, up_some, cont_some, k_call, k_mv, k_pick, k_bin, k_eqB, k_eqA, k_not, k_neg, k_conv, k_alloc, k_boxA, k_boxI, k_boxB, k_boxN, k_boxBs, k_ldR, k_ldA, k_ldI, k_ldB, k_stA, k_stI, k_stB, ldC_some, stC_some, k_mkfn, k_slc, k_slcA, k_ixA, k_ixBs, k_ixSl, k_fadr, k_fld, k_ext, k_len, k_app, k_mn, k_mx, k_nilck, k_build, k_bsl1, k_bsl2, b_add, b_sub, b_mul, b_eql, b_neq, b_lss, b_leq, b_gtr, b_geq, Dn.setLast, Dn.getLast, evalO, mapO, Dn.get, putE, keepE, TV.one, TV.isAgg, Dn.part, g0, g1, g2, g7, g8, g9, g10, g11, g12, g13, hlen, e1, hix, f2, d1, la, e2]
  · have e1 : ¬ ((i : Int) < (l.length : Int)) := by omega
    have hpa : bAt l i k = 0 := by
      unfold bAt
      rw [List.getElem?_eq_none (by omega)]; rfl
    rw [hpa]
    refine ⟨env17 T g ms out (.i .i64 (i : Int)) x so (.i .i64 (k : Int)) p (.i .i64 0) ++ [(78, .b false)], fun K => ?_, rfl⟩
    simp [q17_2, go_nil, go_last, go_past, go_pastR, go_blkN, go_blkR, go_blkE, go_skip, go_exit, go_ret, go_scope, go_seq, go_reg, go_regd, go_opdN, go_opd, go_opdG, grdd_b, grdd_u, stpd_some, find_some, go_block, go_cond, cnd_b, go_opsN, go_ops, go_opsG, grd_b, grd_u, stp_some, fin_some, up_some, cont_some, k_call, k_mv, k_pick, k_bin, k_eqB, k_eqA, k_not, k_neg, k_conv, k_alloc, k_boxA, k_boxI, k_boxB, k_boxN, k_boxBs, k_ldR, k_ldA, k_ldI, k_ldB, k_stA, k_stI, k_stB, ldC_some, stC_some, k_mkfn, k_slc, k_slcA, k_ixA, k_ixBs, k_ixSl, k_fadr, k_fld, k_ext, k_len, k_app, k_mn, k_mx, k_nilck, k_build, k_bsl1, k_bsl2, b_add, b_sub, b_mul, b_eql, b_neq, b_lss, b_leq, b_gtr, b_geq, Dn.setLast, Dn.getLast, evalO, mapO, Dn.get, putE, keepE, TV.one, TV.isAgg, Dn.part, g0, g1, g2, g7, g8, g9, g10, g11, g12, g13, hlen, e1]

def bFix (g k : Nat) (so b : Int) : Int := if k + 1 = g ∧ so = 0 then 1 else b

theorem q17_3_run {pg : Pg} {T ms out x p i : TV} {g k : Nat} {so b : Int} (hg : 1 ≤ g ∧ g ≤ 3) {e : Env} (he : keepE ks17 e = env17 T (.i .i64 (g : Int)) ms out i x (.i .i64 so) (.i .i64 (k : Int)) p (.i .i64 b)) (H : Heap) :
    ∃ e', (∀ K, go pg (den pg) (.c q17_3 :: K) .normal e H = go pg (den pg) K .normal e' H) ∧ keepE ks17 e' = env17 T (.i .i64 (g : Int)) ms out i x (.i .i64 so) (.i .i64 (k : Int)) p (.i .i64 (bFix g k so b)) := by
  have g0 := keep_get he (s := 0) (by simp) rfl
  have g1 := keep_get he (s := 1) (by simp) rfl
  have g2 := keep_get he (s := 2) (by simp) rfl
  have g7 := keep_get he (s := 7) (by simp) rfl
  have g8 := keep_get he (s := 8) (by simp) rfl
  have g9 := keep_get he (s := 9) (by simp) rfl
  have g10 := keep_get he (s := 10) (by simp) rfl
  have g11 := keep_get he (s := 11) (by simp) rfl
  have g12 := keep_get he (s := 12) (by simp) rfl
  have g13 := keep_get he (s := 13) (by simp) rfl
  have e2 : wrapR .i64 ((g : Int) - 1) = .i .i64 ((g : Int) - 1) := wrapR_i64 (by omega)
  by_cases hk : k + 1 = g
  · have e1 : (k : Int) = (g : Int) - 1 := by omega
    by_cases hs : so = 0
    · refine ⟨env17 T (.i .i64 (g : Int)) ms out i x (.i .i64 so) (.i .i64 (k : Int)) p (.i .i64 1), fun K => ?_, by unfold bFix; rw [if_pos ⟨hk, hs⟩]; rfl⟩
      simp [q17_3, go_nil, go_last, go_past, go_pastR, go_blkN, go_blkR, go_blkE, go_skip, go_exit, go_ret, go_scope, go_seq, go_reg, go_regd, go_opdN, go_opd, go_opdG, grdd_b, grdd_u, stpd_some, find_some, go_block, go_cond, cnd_b, go_opsN, go_ops, go_opsG, grd_b, grd_u, stp_some, fin_some, up_some, cont_some, k_call, k_mv, k_pick, k_bin, k_eqB, k_eqA, k_not, k_neg, k_conv, k_alloc, k_boxA, k_boxI, k_boxB, k_boxN, k_boxBs, k_ldR, k_ldA, k_ldI, k_ldB, k_stA, k_stI, k_stB, ldC_some, stC_some, k_mkfn, k_slc, k_slcA, k_ixA, k_ixBs, k_ixSl, k_fadr, k_fld, k_ext, k_len, k_app, k_mn, k_mx, k_nilck, k_build, k_bsl1, k_bsl2, b_add, b_sub, b_mul, b_eql, b_neq, b_lss, b_leq, b_gtr, b_geq, Dn.setLast, Dn.getLast, evalO, mapO, Dn.get, putE, keepE, TV.one, TV.isAgg, Dn.part, g0, g1, g2, g7, g8, g9, g10, g11, g12, g13, e1, e2, hs]
    · refine ⟨env17 T (.i .i64 (g : Int)) ms out i x (.i .i64 so) (.i .i64 (k : Int)) p (.i .i64 b) ++ [(100, .b false)], fun K => ?_, by unfold bFix; rw [if_neg (fun h => hs h.2)]; rfl⟩
      have hs' : (so == 0) = false := by simpa using hs
      simp [q17_3, go_nil, go_last, go_past, go_pastR, go_blkN, go_blkR, go_blkE, go_skip, go_exit, go_ret, go_scope, go_seq, go_reg, go_regd, go_opdN, go_opd, go_opdG, grdd_b, grdd_u, stpd_some, find_some, go_block, go_cond, cnd_b, go_opsN, go_ops, go_opsG, grd_b, grd_u, stp_some, fin_some, up_some, cont_some, k_call, k_mv, k_pick, k_bin, k_eqB, k_eqA, k_not, k_neg, k_conv, k_alloc, k_boxA, k_boxI, k_boxB, k_boxN, k_boxBs, k_ldR, k_ldA, k_ldI, k_ldB, k_stA, k_stI, k_stB, ldC_some, stC_some, k_mkfn, k_slc, k_slcA, k_ixA, k_ixBs, k_ixSl, k_fadr, k_fld, k_ext, k_len, k_app, k_mn, k_mx, k_nilck, k_build, k_bsl1, k_bsl2, b_add, b_sub, b_mul, b_eql, b_neq, b_lss, b_leq, b_gtr, b_geq, Dn.setLast, Dn.getLast, evalO, mapO, Dn.get, putE, keepE, TV.one, TV.isAgg, Dn.part, g0, g1, g2, g7, g8, g9, g10, g11, g12, g13, e1, e2, hs']
  · have e1 : ¬ (k : Int) = (g : Int) - 1 := by omega
    refine ⟨env17 T (.i .i64 (g : Int)) ms out i x (.i .i64 so) (.i .i64 (k : Int)) p (.i .i64 b) ++ [(100, .b false)], fun K => ?_, by unfold bFix; rw [if_neg (fun h => hk h.1)]; rfl⟩
    simp [q17_3, go_nil, go_last, go_past, go_pastR, go_blkN, go_blkR, go_blkE, go_skip, go_exit, go_ret, go_scope, go_seq, go_reg, go_regd, go_opdN, go_opd, go_opdG, grdd_b, grdd_u, stpd_some, find_some, go_block, go_cond, cnd_b, go_opsN, go_ops, go_opsG, grd_b, grd_u, stp_some, fin_some, up_some, cont_some, k_call, k_mv, k_pick, k_bin, k_eqB, k_eqA, k_not, k_neg, k_conv, k_alloc, k_boxA, k_boxI, k_boxB, k_boxN, k_boxBs, k_ldR, k_ldA, k_ldI, k_ldB, k_stA, k_stI, k_stB, ldC_some, stC_some, k_mkfn, k_slc, k_slcA, k_ixA, k_ixBs, k_ixSl, k_fadr, k_fld, k_ext, k_len, k_app, k_mn, k_mx, k_nilck, k_build, k_bsl1, k_bsl2, b_add, b_sub, b_mul, b_eql, b_neq, b_lss, b_leq, b_gtr, b_geq, Dn.setLast, Dn.getLast, evalO, mapO, Dn.get, putE, keepE, TV.one, TV.isAgg, Dn.part, g0, g1, g2, g7, g8, g9, g10, g11, g12, g13, e1, e2]

end Go.Proofs.Tryd.Dn

/-
  tame makes observations.
-/

namespace Go.Proofs.Tryd.Dn
open Go.Dn

/-- what is known of a half-made observation -/
structure Half (g k : Nat) (so : Int) (ps bs : List Int) : Prop where
  lp : ps.length = k
  lb : bs.length = k
  rp : ∀ p ∈ ps, 1 ≤ p ∧ p ≤ 20
  rb : ∀ p ∈ bs, 0 ≤ p ∧ p ≤ 20
  s0 : 0 ≤ so ∧ so ≤ 20 * (k : Int)
  s1 : 0 < so → ∃ p ∈ bs, 0 < p
  s2 : k = g → ∃ p ∈ bs, 0 < p

theorem Half.step {g k : Nat} {so p b : Int} {ps bs : List Int} (h : Half g k so ps bs) (hk : k < g) (hp : 1 ≤ p ∧ p ≤ 20) (hb : 0 ≤ b ∧ b ≤ 20) : Half g (k + 1) (so + b) (ps ++ [p]) (bs ++ [bFix g k (so + b) b]) := by
  have hs := h.s0
  have hf : 0 ≤ bFix g k (so + b) b ∧ bFix g k (so + b) b ≤ 20 := by unfold bFix; split <;> omega
  have h1 : 0 < so + b → ∃ p ∈ bs ++ [bFix g k (so + b) b], 0 < p := by
    intro hpos
    by_cases hso : 0 < so
    · obtain ⟨q, hq, h0⟩ := h.s1 hso
      exact ⟨q, by simp [hq], h0⟩
    · refine ⟨bFix g k (so + b) b, by simp, ?_⟩
      unfold bFix
      rw [if_neg (by omega)]
      omega
  refine ⟨by simp [h.lp], by simp [h.lb], ?_, ?_, by omega, h1, ?_⟩
  · intro q hq
    rcases List.mem_append.1 hq with hq | hq
    · exact h.rp q hq
    · simp at hq; subst hq; exact hp
  · intro q hq
    rcases List.mem_append.1 hq with hq | hq
    · exact h.rb q hq
    · simp at hq; subst hq; exact hf
  · intro hkg
    by_cases hpos : 0 < so + b
    · exact h1 hpos
    · refine ⟨bFix g k (so + b) b, by simp, ?_⟩
      unfold bFix
      rw [if_pos ⟨hkg, by omega⟩]
      omega

theorem l17_1_round {pg : Pg} {T ms out a c : TV} {l : List Obs} {g i k xid : Nat} {so : Int} {ps bs : List Int} {H0 H : Heap} (hT : Rws T l) (hg : 1 ≤ g ∧ g ≤ 3) (hk : k < g) (hh : Half g k so ps bs) (h : PairInv xid H0 H a c ps bs) :
    ∃ a' c' ps' bs' so' H', den pg l17_1 [(0, T), (1, .i .i64 (g : Int)), (2, ms), (7, out), (8, .i .i64 (i : Int)), (9, .ref xid 0), (10, .i .i64 so), (11, .i .i64 (k : Int))] H =
        den pg l17_1 [(0, T), (1, .i .i64 (g : Int)), (2, ms), (7, out), (8, .i .i64 (i : Int)), (9, .ref xid 0), (10, .i .i64 so'), (11, .i .i64 ((k + 1 : Nat) : Int))] H' ∧
      Half g (k + 1) so' ps' bs' ∧ PairInv xid H0 H' a' c' ps' bs' := by
  have e1 : ((k : Int) < (g : Int)) := by omega
  have e2 : wrapR .i64 ((k : Int) + 1) = .i .i64 ((k : Int) + 1) := wrapR_i64 (by omega)
  have hs := hh.s0
  have hbr := bAt_range l i k
  have e3 : wrapR .i64 (so + bAt l i k) = .i .i64 (so + bAt l i k) := wrapR_i64 (by omega)
  obtain ⟨E1, r1, k1⟩ := q17_1_run (pg := pg) (T := T) (g := .i .i64 (g : Int)) (ms := ms) (out := out) (x := .ref xid 0) (so := .i .i64 so) (b := .i .i64 0) (i := i) (k := k) hT rfl (e := env17 T (.i .i64 (g : Int)) ms out (.i .i64 (i : Int)) (.ref xid 0) (.i .i64 so) (.i .i64 (k : Int)) (.i .i64 1) (.i .i64 0)) rfl H
  obtain ⟨E2, r2, k2⟩ := q17_2_run (pg := pg) hT rfl k1 H
  have g0 := keep_get k2 (s := 0) (by simp) rfl
  have g1 := keep_get k2 (s := 1) (by simp) rfl
  have g2 := keep_get k2 (s := 2) (by simp) rfl
  have g7 := keep_get k2 (s := 7) (by simp) rfl
  have g8 := keep_get k2 (s := 8) (by simp) rfl
  have g9 := keep_get k2 (s := 9) (by simp) rfl
  have g10 := keep_get k2 (s := 10) (by simp) rfl
  have g11 := keep_get k2 (s := 11) (by simp) rfl
  have g12 := keep_get k2 (s := 12) (by simp) rfl
  have g13 := keep_get k2 (s := 13) (by simp) rfl
  obtain ⟨E3, r3, k3⟩ := q17_3_run (pg := pg) (T := T) (ms := ms) (out := out) (x := .ref xid 0) (p := .i .i64 (pAt l i k)) (i := .i .i64 (i : Int)) (g := g) (k := k) (so := so + bAt l i k) (b := bAt l i k) hg (e := env17 T (.i .i64 (g : Int)) ms out (.i .i64 (i : Int)) (.ref xid 0) (.i .i64 (so + bAt l i k)) (.i .i64 (k : Int)) (.i .i64 (pAt l i k)) (.i .i64 (bAt l i k))) rfl H
  have m0 := keep_get k3 (s := 0) (by simp) rfl
  have m1 := keep_get k3 (s := 1) (by simp) rfl
  have m2 := keep_get k3 (s := 2) (by simp) rfl
  have m7 := keep_get k3 (s := 7) (by simp) rfl
  have m8 := keep_get k3 (s := 8) (by simp) rfl
  have m9 := keep_get k3 (s := 9) (by simp) rfl
  have m10 := keep_get k3 (s := 10) (by simp) rfl
  have m11 := keep_get k3 (s := 11) (by simp) rfl
  have m12 := keep_get k3 (s := 12) (by simp) rfl
  have m13 := keep_get k3 (s := 13) (by simp) rfl
  obtain ⟨ld0, ld1, _⟩ := h.ld (pg := pg) (R := den pg)
  obtain ⟨a', H1, H2, c', H3, H4, p1, p2, p3, p4, p5⟩ := h.push (pg := pg) (R := den pg) (pAt l i k) (bFix g k (so + bAt l i k) (bAt l i k)) (by rw [hh.lp, hh.lb]; omega)
  refine ⟨a', c', _, _, so + bAt l i k, H4, ?_, hh.step hk (pAt_range l i k) hbr, p5⟩
  rw [l17_1, den_loop]
  simp [l17_1, b17_0, go_nil, go_last, go_past, go_pastR, go_blkN, go_blkR, go_blkE, go_skip, go_exit, go_ret, go_scope, go_seq, go_reg, go_regd, go_opdN, go_opd, go_opdG, grdd_b, grdd_u, stpd_some, find_some, go_block, go_cond, cnd_b, go_opsN, go_ops, go_opsG, grd_b, grd_u, stp_some, fin_some, up_some, cont_some, k_call, k_mv, k_pick, k_bin, k_eqB, k_eqA, k_not, k_neg, k_conv, k_alloc, k_boxA, k_boxI, k_boxB, k_boxN, k_boxBs, k_ldR, k_ldA, k_ldI, k_ldB, k_stA, k_stI, k_stB, ldC_some, stC_some, k_mkfn, k_slc, k_slcA, k_ixA, k_ixBs, k_ixSl, k_fadr, k_fld, k_ext, k_len, k_app, k_mn, k_mx, k_nilck, k_build, k_bsl1, k_bsl2, b_add, b_sub, b_mul, b_eql, b_neq, b_lss, b_leq, b_gtr, b_geq, Dn.setLast, Dn.getLast, evalO, mapO, Dn.get, putE, keepE, TV.one, TV.isAgg, Dn.part, e1, e2, e3, r1, r2, r3, g0, g1, g2, g7, g8, g9, g10, g11, g12, g13, m0, m1, m2, m7, m8, m9, m10, m11, m12, m13, ld0, ld1, p1, p2, p3, p4]

theorem l17_1_all {pg : Pg} {T ms out : TV} {l : List Obs} {g i xid : Nat} {H0 : Heap} (hT : Rws T l) (hg : 1 ≤ g ∧ g ≤ 3) : ∀ (d k : Nat) (a c : TV) (so : Int) (ps bs : List Int) (H : Heap), k + d = g → Half g k so ps bs → PairInv xid H0 H a c ps bs →
    ∃ e a' c' ps' bs' so' H', den pg l17_1 [(0, T), (1, .i .i64 (g : Int)), (2, ms), (7, out), (8, .i .i64 (i : Int)), (9, .ref xid 0), (10, .i .i64 so), (11, .i .i64 (k : Int))] H = some ⟨.exit 2, e, H'⟩ ∧
      keepE [0, 1, 2, 7, 8, 9] e = [(0, T), (1, .i .i64 (g : Int)), (2, ms), (7, out), (8, .i .i64 (i : Int)), (9, .ref xid 0)] ∧ Half g g so' ps' bs' ∧ PairInv xid H0 H' a' c' ps' bs'
  | 0, k, a, c, so, ps, bs, H, h, hh, hp => by
    obtain rfl : k = g := by omega
    have e1 : ¬ ((k : Int) < (k : Int)) := by omega
    refine ⟨[(0, T), (1, .i .i64 (k : Int)), (2, ms), (7, out), (8, .i .i64 (i : Int)), (9, .ref xid 0), (10, .i .i64 so), (11, .i .i64 (k : Int)), (36, .b false)], a, c, ps, bs, so, H, ?_, rfl, hh, hp⟩
    rw [l17_1, den_loop]
    simp [b17_0, go_nil, go_last, go_past, go_pastR, go_blkN, go_blkR, go_blkE, go_skip, go_exit, go_ret, go_scope, go_seq, go_reg, go_regd, go_opdN, go_opd, go_opdG, grdd_b, grdd_u, stpd_some, find_some, go_block, go_cond, cnd_b, go_opsN, go_ops, go_opsG, grd_b, grd_u, stp_some, fin_some, up_some, cont_some, k_call, k_mv, k_pick, k_bin, k_eqB, k_eqA, k_not, k_neg, k_conv, k_alloc, k_boxA, k_boxI, k_boxB, k_boxN, k_boxBs, k_ldR, k_ldA, k_ldI, k_ldB, k_stA, k_stI, k_stB, ldC_some, stC_some, k_mkfn, k_slc, k_slcA, k_ixA, k_ixBs, k_ixSl, k_fadr, k_fld, k_ext, k_len, k_app, k_mn, k_mx, k_nilck, k_build, k_bsl1, k_bsl2, b_add, b_sub, b_mul, b_eql, b_neq, b_lss, b_leq, b_gtr, b_geq, Dn.setLast, Dn.getLast, evalO, mapO, Dn.get, putE, keepE, TV.one, TV.isAgg, Dn.part]
  | d + 1, k, a, c, so, ps, bs, H, h, hh, hp => by
    obtain ⟨a1, c1, ps1, bs1, so1, H1, h1, h2, h3⟩ := l17_1_round (pg := pg) (ms := ms) (out := out) (i := i) hT hg (by omega) hh hp
    obtain ⟨e, a2, c2, ps2, bs2, so2, H2, h4, h5, h6, h7⟩ := l17_1_all (pg := pg) (ms := ms) (out := out) (i := i) hT hg d (k + 1) a1 c1 so1 ps1 bs1 H1 (by omega) h2 h3
    exact ⟨e, a2, c2, ps2, bs2, so2, H2, h1.trans h4, h5, h6, h7⟩

theorem PairInv.init {pg : Pg} {R : Rec} (H : Heap) : PairInv H.length H (H ++ [.cells [.nilsl, .nilsl] true]) .nilsl .nilsl [] [] :=
  ⟨getLast _ _, .inl ⟨rfl, rfl⟩, .inl ⟨rfl, rfl⟩, fun id h => (by cases h), fun id h => (by cases h), fun id h => (by cases h), fun j hj => by rw [List.getElem?_append_left hj]⟩

theorem l17_3_round {pg : Pg} {T out : TV} {l X : List Obs} {g i : Nat} {H : Heap} (hT : Rws T l) (hl : l.length ≤ 9223372036854775807) (hg : 1 ≤ g ∧ g ≤ 3) (hi : i < 5 ∧ i < max 1 l.length) (ho : NestP H out X) (hX : X.length = i) :
    ∃ out' x H', den pg l17_3 [(0, T), (1, .i .i64 (g : Int)), (2, .i .i64 5), (7, out), (8, .i .i64 (i : Int))] H = den pg l17_3 [(0, T), (1, .i .i64 (g : Int)), (2, .i .i64 5), (7, out'), (8, .i .i64 ((i + 1 : Nat) : Int))] H' ∧ NestP H' out' (X ++ [x]) ∧ okObs g x = true := by
  have hlen := hT.len
  have e1 : (if (1 : Int) < (l.length : Int) then (l.length : Int) else 1) = ((max 1 l.length : Nat) : Int) := by split <;> omega
  have e2 : ((i : Int) < ((max 1 l.length : Nat) : Int)) := by omega
  have e3 : ((i : Int) < 5) := by omega
  have e4 : wrapR .i64 ((i : Int) + 1) = .i .i64 ((i : Int) + 1) := wrapR_i64 (by omega)
  obtain ⟨e, a, c, ps, bs, so, H1, h1, h2, h3, h4⟩ := l17_1_all (pg := pg) (ms := .i .i64 5) (out := out) (i := i) (xid := H.length) (H0 := H) hT hg g 0 .nilsl .nilsl 0 [] [] (H ++ [.cells [.nilsl, .nilsl] true]) (by omega)
    ⟨rfl, rfl, fun p hp => (by cases hp), fun p hp => (by cases hp), by simp, fun h => (by omega), fun h => (by omega)⟩ (PairInv.init (pg := pg) (R := den pg) H)
  simp only [Int.natCast_zero] at h1
  have g0 := keep_get h2 (s := 0) (by simp) rfl
  have g1 := keep_get h2 (s := 1) (by simp) rfl
  have g2 := keep_get h2 (s := 2) (by simp) rfl
  have g7 := keep_get h2 (s := 7) (by simp) rfl
  have g8 := keep_get h2 (s := 8) (by simp) rfl
  have g9 := keep_get h2 (s := 9) (by simp) rfl
  obtain ⟨_, _, ld2⟩ := h4.ld (pg := pg) (R := den pg)
  obtain ⟨o1, o2, o3⟩ := Own_one h4.pa
  obtain ⟨p1, p2, p3⟩ := Own_one h4.pc
  have kb := k_bslP (pg := pg) (R := den pg) o1 p1 H1
  obtain ⟨out', H', h5, h6, h7, _, _⟩ := (ho.mono (H' := H1) h4.old).app (x := (ps, bs)) h4.pa h4.pc (fun id hid he => by
    have := ho.lt id he
    rcases hid with hid | hid
    · have := h4.na id hid; omega
    · have := h4.nc id hid; omega) (by omega)
  have st0 : dkc pg (den pg) (.st 2) [.ref H.length 0, .agg [.nilsl, .nilsl]] (H ++ [.cells [.nilsl, .nilsl] true]) = some (.undef, H ++ [.cells [.nilsl, .nilsl] true]) := (boxS (pg := pg) (R := den pg) H (a := .nilsl) (c := .nilsl) rfl rfl rfl rfl).1
  refine ⟨out', (ps, bs), H', ?_, h6, okObs_iff.2 ⟨h3.lp, h3.lb, h3.rp, h3.rb, h3.s2 rfl⟩⟩
  generalize hmx : ((max 1 l.length : Nat) : Int) = mx at e1 e2
  rw [l17_3, den_loop]
  simp [l17_3, b17_2, go_nil, go_last, go_past, go_pastR, go_blkN, go_blkR, go_blkE, go_skip, go_exit, go_ret, go_scope, go_seq, go_reg, go_regd, go_opdN, go_opd, go_opdG, grdd_b, grdd_u, stpd_some, find_some, go_block, go_cond, cnd_b, go_opsN, go_ops, go_opsG, grd_b, grd_u, stp_some, fin_some, up_some, cont_some, k_call, k_mv, k_pick, k_bin, k_eqB, k_eqA, k_not, k_neg, k_conv, k_alloc, k_boxA, k_boxI, k_boxB, k_boxN, k_boxBs, k_ldR, k_ldA, k_ldI, k_ldB, k_stA, k_stI, k_stB, ldC_some, stC_some, k_mkfn, k_slc, k_slcA, k_ixA, k_ixBs, k_ixSl, k_fadr, k_fld, k_ext, k_len, k_app, k_mn, k_mx, k_nilck, k_build, k_bsl1, k_bsl2, b_add, b_sub, b_mul, b_eql, b_neq, b_lss, b_leq, b_gtr, b_geq, Dn.setLast, Dn.getLast, evalO, mapO, Dn.get, putE, keepE, TV.one, TV.isAgg, Dn.part, hlen, e1, e2, e3, e4, fillP, st0, go_denK (c := l17_1) rfl, h1, g0, g1, g2, g7, g8, g9, ld2, kb, h5]

theorem l17_3_all {pg : Pg} {T : TV} {l : List Obs} {g : Nat} (hT : Rws T l) (hl : l.length ≤ 9223372036854775807) (hg : 1 ≤ g ∧ g ≤ 3) : ∀ (d i : Nat) (out : TV) (X : List Obs) (H : Heap), i + d = min 5 (max 1 l.length) → NestP H out X → X.length = i → (∀ x ∈ X, okObs g x = true) →
    ∃ e out' X' H', den pg l17_3 [(0, T), (1, .i .i64 (g : Int)), (2, .i .i64 5), (7, out), (8, .i .i64 (i : Int))] H = some ⟨.exit 0, e, H'⟩ ∧ Dn.get e 7 = some out' ∧ NestP H' out' X' ∧ X'.length = min 5 (max 1 l.length) ∧ (∀ x ∈ X', okObs g x = true)
  | 0, i, out, X, H, h, ho, hX, hk => by
    have hlen := hT.len
    have e1 : (if (1 : Int) < (l.length : Int) then (l.length : Int) else 1) = ((max 1 l.length : Nat) : Int) := by split <;> omega
    refine ⟨[(0, T), (1, .i .i64 (g : Int)), (2, .i .i64 5), (7, out), (8, .i .i64 (i : Int)), (30, .b false)], out, X, H, ?_, rfl, ho, by omega, hk⟩
    by_cases h2 : (i : Int) < ((max 1 l.length : Nat) : Int)
    · have e3 : ¬ ((i : Int) < 5) := by omega
      generalize hmx : ((max 1 l.length : Nat) : Int) = mx at e1 h2
      rw [l17_3, den_loop]
      simp [b17_2, go_nil, go_last, go_past, go_pastR, go_blkN, go_blkR, go_blkE, go_skip, go_exit, go_ret, go_scope, go_seq, go_reg, go_regd, go_opdN, go_opd, go_opdG, grdd_b, grdd_u, stpd_some, find_some, go_block, go_cond, cnd_b, go_opsN, go_ops, go_opsG, grd_b, grd_u, stp_some, fin_some, up_some, cont_some, k_call, k_mv, k_pick, k_bin, k_eqB, k_eqA, k_not, k_neg, k_conv, k_alloc, k_boxA, k_boxI, k_boxB, k_boxN, k_boxBs, k_ldR, k_ldA, k_ldI, k_ldB, k_stA, k_stI, k_stB, ldC_some, stC_some, k_mkfn, k_slc, k_slcA, k_ixA, k_ixBs, k_ixSl, k_fadr, k_fld, k_ext, k_len, k_app, k_mn, k_mx, k_nilck, k_build, k_bsl1, k_bsl2, b_add, b_sub, b_mul, b_eql, b_neq, b_lss, b_leq, b_gtr, b_geq, Dn.setLast, Dn.getLast, evalO, mapO, Dn.get, putE, keepE, TV.one, TV.isAgg, Dn.part, hlen, e1, h2, e3]
    · generalize hmx : ((max 1 l.length : Nat) : Int) = mx at e1 h2
      rw [l17_3, den_loop]
      simp [b17_2, go_nil, go_last, go_past, go_pastR, go_blkN, go_blkR, go_blkE, go_skip, go_exit, go_ret, go_scope, go_seq, go_reg, go_regd, go_opdN, go_opd, go_opdG, grdd_b, grdd_u, stpd_some, find_some, go_block, go_cond, cnd_b, go_opsN, go_ops, go_opsG, grd_b, grd_u, stp_some, fin_some, up_some, cont_some, k_call, k_mv, k_pick, k_bin, k_eqB, k_eqA, k_not, k_neg, k_conv, k_alloc, k_boxA, k_boxI, k_boxB, k_boxN, k_boxBs, k_ldR, k_ldA, k_ldI, k_ldB, k_stA, k_stI, k_stB, ldC_some, stC_some, k_mkfn, k_slc, k_slcA, k_ixA, k_ixBs, k_ixSl, k_fadr, k_fld, k_ext, k_len, k_app, k_mn, k_mx, k_nilck, k_build, k_bsl1, k_bsl2, b_add, b_sub, b_mul, b_eql, b_neq, b_lss, b_leq, b_gtr, b_geq, Dn.setLast, Dn.getLast, evalO, mapO, Dn.get, putE, keepE, TV.one, TV.isAgg, Dn.part, hlen, e1, h2]
  | d + 1, i, out, X, H, h, ho, hX, hk => by
    obtain ⟨out1, x, H1, h1, h2, h3⟩ := l17_3_round (pg := pg) hT hl hg (by omega) ho hX
    obtain ⟨e, out2, X2, H2, h4, h5, h6, h7, h8⟩ := l17_3_all (pg := pg) hT hl hg d (i + 1) out1 (X ++ [x]) H1 (by omega) h2 (by simp [hX]) (fun y hy => by
      rcases List.mem_append.1 hy with hy | hy
      · exact hk y hy
      · simp at hy; subst hy; exact h3)
    exact ⟨e, out2, X2, H2, h1.trans h4, h5, h6, h7, h8⟩

/-- the number of goods -/
def gOf (n : Int) : Nat := (1 + (IntKind.wrap .u64 n).tmod 3).toNat

theorem gOf_range (n : Int) : 1 ≤ gOf n ∧ gOf n ≤ 3 ∧ 1 + (IntKind.wrap .u64 n).tmod 3 = (gOf n : Int) := by
  unfold gOf
  have := wrap_u64 n
  rw [Int.tmod_eq_emod_of_nonneg this]; omega

theorem fn17 {pg : Pg} (hF : Free pg) {T : TV} {l : List Obs} (hT : Rws T l) (hl : l.length ≤ 9223372036854775807) (n : Int) : ∃ X g, Market X g ∧ PFn pg 17 [T, .i .i64 n, .i .i64 5] ((elS false).lt false X) := by
  obtain ⟨g1, g3, ge⟩ := gOf_range n
  generalize gOf n = g at g1 g3 ge
  obtain ⟨e, out', X, H', h1, h2, h3, h4, h5⟩ := l17_3_all (pg := pg) hT hl ⟨g1, g3⟩ (min 5 (max 1 l.length)) 0 .nilsl [] [] (by omega) (NestP.nil _) rfl (fun x hx => by cases hx)
  simp only [Int.natCast_zero] at h1
  refine ⟨X, g, ⟨by omega, by omega, g1, g3, h5⟩, ?_⟩
  have e3 : wrapR .u64 n = .i .u64 (IntKind.wrap .u64 n) := rfl
  have e6 : wrapR .i64 ((IntKind.wrap .u64 n).tmod 3) = .i .i64 ((IntKind.wrap .u64 n).tmod 3) := wrapR_i64 (by omega)
  have e5 : wrapR .i64 (1 + (IntKind.wrap .u64 n).tmod 3) = .i .i64 (g : Int) := by rw [ge]; exact wrapR_i64 (by omega)
  have er : binI .rem (.i .u64 (IntKind.wrap .u64 n)) (.i .u64 3) = some (.i .u64 ((IntKind.wrap .u64 n).tmod 3)) := by rw [b_rem, if_neg (by decide)]
  have hsn : Dn.snap .fin H' 9 out' = some ((elS false).lt false X) := h3.fin 4
  generalize IntKind.wrap .u64 n = w at *
  generalize w.tmod 3 = r at *
  refine .of_go (x := .ret) (e := [(6, out')]) (H' := H') (vs := [out']) (hF.S _ _ (by decide)) (d := d17) (by rw [hF.F]; rfl) rfl ?_ (.inl rfl) rfl hsn
  simp [d17, c17, zipE, go_nil, go_last, go_past, go_pastR, go_blkN, go_blkR, go_blkE, go_skip, go_exit, go_ret, go_scope, go_seq, go_reg, go_regd, go_opdN, go_opd, go_opdG, grdd_b, grdd_u, stpd_some, find_some, go_block, go_cond, cnd_b, go_opsN, go_ops, go_opsG, grd_b, grd_u, stp_some, fin_some, up_some, cont_some, k_call, k_mv, k_pick, k_bin, k_eqB, k_eqA, k_not, k_neg, k_conv, k_alloc, k_boxA, k_boxI, k_boxB, k_boxN, k_boxBs, k_ldR, k_ldA, k_ldI, k_ldB, k_stA, k_stI, k_stB, ldC_some, stC_some, k_mkfn, k_slc, k_slcA, k_ixA, k_ixBs, k_ixSl, k_fadr, k_fld, k_ext, k_len, k_app, k_mn, k_mx, k_nilck, k_build, k_bsl1, k_bsl2, b_add, b_sub, b_mul, b_eql, b_neq, b_lss, b_leq, b_gtr, b_geq, Dn.setLast, Dn.getLast, evalO, mapO, Dn.get, putE, keepE, TV.one, TV.isAgg, Dn.part, e3, er, e6, e5, go_denK (c := l17_3) rfl, h1, h2]

theorem SV.snapA {t : TV} {l : List Int} (h : SV t l) (f : Nat) : ∃ t', (∀ H, Dn.snap .borrow H (f + 2) t = some t') ∧ SV t' l := by
  rcases h with ⟨rfl, rfl⟩ | ⟨b, rfl⟩
  · exact ⟨_, fun H => snS_nil _ _ _, .inl ⟨rfl, rfl⟩⟩
  · exact ⟨_, fun H => by rw [snS_bsB, mapO_map (f := elI.val) (k := elI.val) (l := l) fun a _ => snS_i _ _ _ _ _, Option.map_some], .inr ⟨true, rfl⟩⟩
theorem PV.snapA {t : TV} {x : List Int × List Int} (h : PV t x) (f : Nat) : ∃ t', (∀ H, Dn.snap .borrow H (f + 3) t = some t') ∧ PV t' x := by
  obtain ⟨a, b, rfl, ha, hb⟩ := h
  obtain ⟨a', e1, ha'⟩ := SV.snapA ha f
  obtain ⟨b', e2, hb'⟩ := SV.snapA hb f
  exact ⟨.agg [a', b'], fun H => by rw [snS_agg]; simp [mapO, e1, e2], a', b', rfl, ha', hb'⟩
theorem Rws.snapL (f : Nat) : ∀ (es : List TV) (l : List Obs), es.length = l.length → (∀ (i : Nat) e x, es[i]? = some e → l[i]? = some x → PV e x) →
    ∃ es', (∀ H, mapO (Dn.snap .borrow H (f + 3)) es = some es') ∧ es'.length = l.length ∧ ∀ (i : Nat) e x, es'[i]? = some e → l[i]? = some x → PV e x
  | [], l, hl, _ => ⟨[], fun _ => rfl, hl, fun i e x h => by simp at h⟩
  | e :: es, [], hl, _ => by simp at hl
  | e :: es, x :: l, hl, he => by
    obtain ⟨es', h1, h2, h3⟩ := Rws.snapL f es l (by simpa using hl) fun i e x h1 h2 => he (i + 1) e x h1 h2
    obtain ⟨e', h4, h5⟩ := PV.snapA (he 0 e x rfl rfl) f
    refine ⟨e' :: es', fun H => by simp [mapO, h4, h1], by simp [h2], fun i a y ha hy => ?_⟩
    cases i with
    | zero => simp at ha hy; subst ha hy; exact h5
    | succ i => exact h3 i a y (by simpa using ha) (by simpa using hy)
theorem Rws.snapA {t : TV} {l : List Obs} (h : Rws t l) (f : Nat) : ∃ t', (∀ H, Dn.snap .borrow H (f + 4) t = some t') ∧ Rws t' l := by
  rcases h with ⟨rfl, rfl⟩ | ⟨b, es, rfl, hl, he⟩
  · exact ⟨_, fun H => snS_nil _ _ _, .inl ⟨rfl, rfl⟩⟩
  · obtain ⟨es', h1, h2, h3⟩ := Rws.snapL f es l hl he
    exact ⟨.bs true 2 es', fun H => by rw [snS_bsB, h1]; rfl, .inr ⟨true, es', rfl, h2, h3⟩⟩

theorem call17 {pg : Pg} (hF : Free pg) {T : TV} {l : List Obs} (hT : Rws T l) (hl : l.length ≤ 9223372036854775807) (n : Int) : ∃ X g, Market X g ∧ ∀ H, callRun pg (den pg) (.pu []) [.fn 17 [] [], T, .i .i64 n, .i .i64 5] H = some ((elS false).lt false X, H) := by
  obtain ⟨T', h1, h2⟩ := Rws.snapA hT 5
  obtain ⟨X, g, h3, h4⟩ := fn17 hF h2 hl n
  have h5 : ∀ H, snapArgs H [] [T, .i .i64 n, .i .i64 5] = some [T', .i .i64 n, .i .i64 5] := by
    intro H
    simp [snapArgs, sn_i, h1 H]
  exact ⟨X, g, h3, fun H => PFn.call h4 (args := [T, .i .i64 n, .i .i64 5]) (h5 H)⟩

end Go.Proofs.Tryd.Dn

