/-
  PriceWeak: the whole run answers true.
-/
import Derived.Test.YtgmlmmgpcbollaaDoorQg
set_option linter.unusedSimpArgs false
set_option linter.unusedVariables false

namespace Go.Proofs.Tryd.Dn
open Go.Dn

def badShare (a b : Int) : Prop := b < 1 ∨ 2000 < b ∨ a < 0 ∨ b < a

theorem call33bad {pg : Pg} (hF : Free pg) {X : List Obs} {g : Nat} (hm : Market X g) {a b : Int} (hb : badShare a b) (H : Heap) : callRun pg (den pg) (.pu []) [.fn 33 [] [], (elS false).lt false X, .i .i64 a, .i .i64 b] H = some (.tup [.nilsl, .b false, .i .i64 1], H) := by
  obtain ⟨H1, h1, h2, h3, h4⟩ := body53 hF hm (P := .nilsl) (P' := .nilsl) (ps := []) (elS_RV true true X) (.inl ⟨rfl, rfl⟩) (by simp) (by simp) (H := []) (sn_nil _ _)
  simp only [List.length_nil] at h1 h2
  refine PFn.call (.of2 (xs := [(elS true).lt true X, .i .i64 a, .i .i64 b]) (x := .ret) (e := [(6, .nilsl), (7, .b false), (8, .i .i64 1)]) (H' := H1) (vs := [.nilsl, .b false, .i .i64 1]) (hF.S _ _ (by decide)) (d := d33) (by rw [hF.F]; rfl) rfl ?_ (.inl rfl) rfl (by simp) (by simp [sn_i, sn_b, sn_nil, sn8_i, sn8_b, sn8_nil, sn7_i, sn7_b, sn_sl, sn8_sl, slB_some, sn_tup, sn_agg, sn8_agg, mapO, elems])) (args := [(elS false).lt false X, .i .i64 a, .i .i64 b]) (by simp [snapArgs, snap_pairs false false H 5 X, sn_i])
  by_cases c1 : b < 1
  · simp [d33, c33, zipE, go_nil, go_last, go_past, go_pastR, go_blkN, go_blkR, go_blkE, go_skip, go_exit, go_ret, go_scope, go_seq, go_reg, go_block, go_cond, cnd_b, go_opsN, go_ops, go_opsG, grd_b, grd_u, stp_some, fin_some, up_some, cont_some, k_call, k_mv, k_pick, k_bin, k_eqB, k_eqA, k_not, k_neg, k_conv, k_alloc, k_boxA, k_boxI, k_boxB, k_boxN, k_boxBs, k_ldR, k_ldA, k_ldI, k_ldB, k_stA, k_stI, k_stB, ldC_some, stC_some, k_mkfn, k_slc, k_slcA, k_ixA, k_ixBs, k_ixSl, k_fadr, k_fld, k_ext, k_len, k_app, k_mn, k_mx, k_nilck, k_build, k_bsl1, k_bsl2, b_add, b_sub, b_mul, b_eql, b_neq, b_lss, b_leq, b_gtr, b_geq, Dn.setLast, Dn.getLast, evalO, mapO, Dn.get, putE, keepE, TV.one, TV.isAgg, Dn.part, sh_fn, h1, c1]
  · by_cases c2 : 2000 < b
    · simp [d33, c33, zipE, go_nil, go_last, go_past, go_pastR, go_blkN, go_blkR, go_blkE, go_skip, go_exit, go_ret, go_scope, go_seq, go_reg, go_block, go_cond, cnd_b, go_opsN, go_ops, go_opsG, grd_b, grd_u, stp_some, fin_some, up_some, cont_some, k_call, k_mv, k_pick, k_bin, k_eqB, k_eqA, k_not, k_neg, k_conv, k_alloc, k_boxA, k_boxI, k_boxB, k_boxN, k_boxBs, k_ldR, k_ldA, k_ldI, k_ldB, k_stA, k_stI, k_stB, ldC_some, stC_some, k_mkfn, k_slc, k_slcA, k_ixA, k_ixBs, k_ixSl, k_fadr, k_fld, k_ext, k_len, k_app, k_mn, k_mx, k_nilck, k_build, k_bsl1, k_bsl2, b_add, b_sub, b_mul, b_eql, b_neq, b_lss, b_leq, b_gtr, b_geq, Dn.setLast, Dn.getLast, evalO, mapO, Dn.get, putE, keepE, TV.one, TV.isAgg, Dn.part, sh_fn, h1, c1, c2]
    · by_cases c3 : a < 0
      · simp [d33, c33, zipE, go_nil, go_last, go_past, go_pastR, go_blkN, go_blkR, go_blkE, go_skip, go_exit, go_ret, go_scope, go_seq, go_reg, go_block, go_cond, cnd_b, go_opsN, go_ops, go_opsG, grd_b, grd_u, stp_some, fin_some, up_some, cont_some, k_call, k_mv, k_pick, k_bin, k_eqB, k_eqA, k_not, k_neg, k_conv, k_alloc, k_boxA, k_boxI, k_boxB, k_boxN, k_boxBs, k_ldR, k_ldA, k_ldI, k_ldB, k_stA, k_stI, k_stB, ldC_some, stC_some, k_mkfn, k_slc, k_slcA, k_ixA, k_ixBs, k_ixSl, k_fadr, k_fld, k_ext, k_len, k_app, k_mn, k_mx, k_nilck, k_build, k_bsl1, k_bsl2, b_add, b_sub, b_mul, b_eql, b_neq, b_lss, b_leq, b_gtr, b_geq, Dn.setLast, Dn.getLast, evalO, mapO, Dn.get, putE, keepE, TV.one, TV.isAgg, Dn.part, sh_fn, h1, c1, c2, c3]
      · have c4 : b < a := by unfold badShare at hb; omega
        simp [d33, c33, zipE, go_nil, go_last, go_past, go_pastR, go_blkN, go_blkR, go_blkE, go_skip, go_exit, go_ret, go_scope, go_seq, go_reg, go_block, go_cond, cnd_b, go_opsN, go_ops, go_opsG, grd_b, grd_u, stp_some, fin_some, up_some, cont_some, k_call, k_mv, k_pick, k_bin, k_eqB, k_eqA, k_not, k_neg, k_conv, k_alloc, k_boxA, k_boxI, k_boxB, k_boxN, k_boxBs, k_ldR, k_ldA, k_ldI, k_ldB, k_stA, k_stI, k_stB, ldC_some, stC_some, k_mkfn, k_slc, k_slcA, k_ixA, k_ixBs, k_ixSl, k_fadr, k_fld, k_ext, k_len, k_app, k_mn, k_mx, k_nilck, k_build, k_bsl1, k_bsl2, b_add, b_sub, b_mul, b_eql, b_neq, b_lss, b_leq, b_gtr, b_geq, Dn.setLast, Dn.getLast, evalO, mapO, Dn.get, putE, keepE, TV.one, TV.isAgg, Dn.part, sh_fn, h1, c1, c2, c3, c4]

theorem all_small {X : List Obs} {g : Nat} (hm : Market X g) : 2 ^ X.length - 1 < 65536 := by
  have := (pow5 hm.n5).2; omega

theorem call33 {pg : Pg} (hF : Free pg) {X : List Obs} {g : Nat} (hm : Market X g) {a b : Int} (hb : ¬ badShare a b) :
    ∃ r : List Nat, (∀ H, callRun pg (den pg) (.pu []) [.fn 33 [] [], (elS false).lt false X, .i .i64 a, .i .i64 b] H = some (.tup [elI.lt false (nI r), .b (decide (r ≠ [])), .i .i64 0], H)) ∧ (r = [] ↔ ¬ ∃ i k, PairT X.length (pref X a b) i k) ∧ (r ≠ [] → isRingP X.length (pref X a b) (nI r)) ∧ r.length ≤ 5 := by
  have hn5 := hm.n5
  have hb' : 1 ≤ b ∧ b ≤ 2000 ∧ 0 ≤ a ∧ a ≤ b := by unfold badShare at hb; omega
  obtain ⟨H1, h1, h2, h3, h4⟩ := body53 hF hm (P := .nilsl) (P' := .nilsl) (ps := []) (elS_RV true true X) (.inl ⟨rfl, rfl⟩) (by simp) (by simp) (H := []) (sn_nil _ _)
  simp only [List.length_nil] at h1 h2
  have c57 := call57 hF hm h2
  obtain ⟨r, c60, r1, r2⟩ := call60 hF hm (all_small hm) (ba := a) (bb := b) (by omega) (by omega)
  have c60' := c60 H1 0 h2
  have hnn := nil_ne (pg := pg) (R := den pg) r
  have c1 : ¬ b < 1 := by omega
  have c2 : ¬ 2000 < b := by omega
  have c3 : ¬ a < 0 := by omega
  have c4 : ¬ b < a := by omega
  refine ⟨r, fun H => ?_, ?_, fun hne => ?_, ?_⟩
  · have hs : Dn.snap .fin H1 8 (elI.lt false (nI r)) = some (elI.lt false (nI r)) := snap_intsF H1 6 _
    refine PFn.call (.of_go (xs := [(elS true).lt true X, .i .i64 a, .i .i64 b]) (x := .ret) (e := [(6, elI.lt false (nI r)), (7, .b (decide (r ≠ []))), (8, .i .i64 0)]) (H' := H1) (vs := [elI.lt false (nI r), .b (decide (r ≠ [])), .i .i64 0]) (hF.S _ _ (by decide)) (d := d33) (by rw [hF.F]; rfl) rfl ?_ (.inl rfl) rfl (by
      show Dn.snap .fin H1 9 (.tup [elI.lt false (nI r), .b (decide (r ≠ [])), .i .i64 0]) = _
      rw [sn_tup]
      simp only [mapO, hs, sn8_b, sn8_i, Option.bind_some, Option.map_some])) (args := [(elS false).lt false X, .i .i64 a, .i .i64 b]) (by simp [snapArgs, snap_pairs false false H 5 X, sn_i])
    generalize ((2 ^ X.length - 1 : Nat) : Int) = al at c57 c60'
    generalize hd : decide (r ≠ []) = dd at *
    simp [d33, c33, zipE, go_nil, go_last, go_past, go_pastR, go_blkN, go_blkR, go_blkE, go_skip, go_exit, go_ret, go_scope, go_seq, go_reg, go_block, go_cond, cnd_b, go_opsN, go_ops, go_opsG, grd_b, grd_u, stp_some, fin_some, up_some, cont_some, k_call, k_mv, k_pick, k_bin, k_eqB, k_eqA, k_not, k_neg, k_conv, k_alloc, k_boxA, k_boxI, k_boxB, k_boxN, k_boxBs, k_ldR, k_ldA, k_ldI, k_ldB, k_stA, k_stI, k_stB, ldC_some, stC_some, k_mkfn, k_slc, k_slcA, k_ixA, k_ixBs, k_ixSl, k_fadr, k_fld, k_ext, k_len, k_app, k_mn, k_mx, k_nilck, k_build, k_bsl1, k_bsl2, b_add, b_sub, b_mul, b_eql, b_neq, b_lss, b_leq, b_gtr, b_geq, Dn.setLast, Dn.getLast, evalO, mapO, Dn.get, putE, keepE, TV.one, TV.isAgg, Dn.part, sh_fn, h1, c1, c2, c3, c4, c57, fillP, put2, TV.cells, c60', hnn]
  · rw [r1]
    constructor
    · rintro h ⟨i, k, hp⟩; exact h ⟨i, k, pair_iff.2 hp⟩
    · rintro h ⟨i, k, hp⟩; exact h ⟨i, k, pair_iff.1 hp⟩
  · obtain ⟨i, k, hp, hw⟩ := r2 hne
    exact hw.ring hp
  · by_cases hne : r = []
    · subst hne; simp
    · obtain ⟨i, k, hp, hw⟩ := r2 hne
      have := nodup_len X.length r hw.nodup hw.lt
      omega

def nextB (b : Int) : Int := 1 + (IntKind.wrap .u64 b).tmod 2000
def nextA (a b : Int) : Int := (IntKind.wrap .u64 a).tmod (nextB b + 1)

theorem nextB_range (b : Int) : 1 ≤ nextB b ∧ nextB b ≤ 2000 := by
  unfold nextB
  have := wrap_u64 b
  rw [Int.tmod_eq_emod_of_nonneg this]; omega
theorem nextA_range (a b : Int) : 0 ≤ nextA a b ∧ nextA a b ≤ nextB b := by
  unfold nextA
  have h1 := wrap_u64 a
  have h2 := nextB_range b
  rw [Int.tmod_eq_emod_of_nonneg h1]
  have h3 := Int.emod_nonneg (IntKind.wrap .u64 a) (show nextB b + 1 ≠ 0 by omega)
  have h4 := Int.emod_lt_of_pos (IntKind.wrap .u64 a) (show 0 < nextB b + 1 by omega)
  omega

theorem l5_1_round {pg : Pg} (hF : Free pg) {X : List Obs} {g : Nat} (hm : Market X g) (a b : Int) {i : Int} (hi : 0 ≤ i ∧ i < 2) {H : Heap} :
    den pg l5_1 [(7, (elS false).lt false X), (8, (elS false).lt false X), (9, .i .i64 a), (10, .i .i64 b), (11, .i .i64 i)] H =
      den pg l5_1 [(7, (elS false).lt false X), (8, (elS false).lt false X), (9, .i .i64 (nextA a b)), (10, .i .i64 (nextB b)), (11, .i .i64 (i + 1))] H := by
  have e0 : i < 2 := hi.2
  have e1 : wrapR .i64 (i + 1) = .i .i64 (i + 1) := wrapR_i64 (by omega)
  have nb := nextB_range b
  have na := nextA_range a b
  have e3 : ∀ v, wrapR .u64 v = .i .u64 (IntKind.wrap .u64 v) := fun _ => rfl
  have r1 : binI .rem (.i .u64 (IntKind.wrap .u64 b)) (.i .u64 2000) = some (.i .u64 ((IntKind.wrap .u64 b).tmod 2000)) := by rw [b_rem, if_neg (by decide)]
  have e4 : wrapR .i64 ((IntKind.wrap .u64 b).tmod 2000) = .i .i64 ((IntKind.wrap .u64 b).tmod 2000) := wrapR_i64 (by unfold nextB at nb; omega)
  have e5 : wrapR .i64 (1 + (IntKind.wrap .u64 b).tmod 2000) = .i .i64 (nextB b) := wrapR_i64 (n := nextB b) (by omega)
  have e6 : wrapR .i64 (nextB b + 1) = .i .i64 (nextB b + 1) := wrapR_i64 (by omega)
  have e7 : wrapR .u64 (nextB b + 1) = .i .u64 (nextB b + 1) := by
    have : IntKind.wrap .u64 (nextB b + 1) = nextB b + 1 := by simp [IntKind.wrap, IntKind.signed, IntKind.bits]; omega
    rw [e3, this]
  have e8 : wrapR .u64 a = .i .u64 (IntKind.wrap .u64 a) := rfl
  have e9 : wrapR .u64 b = .i .u64 (IntKind.wrap .u64 b) := rfl
  have r2 : binI .rem (.i .u64 (IntKind.wrap .u64 a)) (.i .u64 (nextB b + 1)) = some (.i .u64 (nextA a b)) := by rw [b_rem, if_neg (by omega)]; rfl
  have e10 : wrapR .i64 (nextA a b) = .i .i64 (nextA a b) := wrapR_i64 (by omega)
  clear e3
  generalize nextA a b = A' at *
  generalize hB : nextB b = B' at *
  by_cases hb : badShare a b
  · have c33 := call33bad hF hm hb
    have ln : ∀ H, lenK 0 .nilsl H = some 0 := fun _ => rfl
    rw [l5_1, den_loop]
    by_cases c1 : a < 0
    · simp [l5_1, b5_0, go_nil, go_last, go_past, go_pastR, go_blkN, go_blkR, go_blkE, go_skip, go_exit, go_ret, go_scope, go_seq, go_reg, go_block, go_cond, cnd_b, go_opsN, go_ops, go_opsG, grd_b, grd_u, stp_some, fin_some, up_some, cont_some, k_call, k_mv, k_pick, k_bin, k_eqB, k_eqA, k_not, k_neg, k_conv, k_alloc, k_boxA, k_boxI, k_boxB, k_boxN, k_boxBs, k_ldR, k_ldA, k_ldI, k_ldB, k_stA, k_stI, k_stB, ldC_some, stC_some, k_mkfn, k_slc, k_slcA, k_ixA, k_ixBs, k_ixSl, k_fadr, k_fld, k_ext, k_len, k_app, k_mn, k_mx, k_nilck, k_build, k_bsl1, k_bsl2, b_add, b_sub, b_mul, b_eql, b_neq, b_lss, b_leq, b_gtr, b_geq, Dn.setLast, Dn.getLast, evalO, mapO, Dn.get, putE, keepE, TV.one, TV.isAgg, Dn.part, e0, e1, c33, c1, ln, e8, e9, r1, e4, e5, e6, e7, r2, e10]
    · by_cases c2 : b < a
      · simp [l5_1, b5_0, go_nil, go_last, go_past, go_pastR, go_blkN, go_blkR, go_blkE, go_skip, go_exit, go_ret, go_scope, go_seq, go_reg, go_block, go_cond, cnd_b, go_opsN, go_ops, go_opsG, grd_b, grd_u, stp_some, fin_some, up_some, cont_some, k_call, k_mv, k_pick, k_bin, k_eqB, k_eqA, k_not, k_neg, k_conv, k_alloc, k_boxA, k_boxI, k_boxB, k_boxN, k_boxBs, k_ldR, k_ldA, k_ldI, k_ldB, k_stA, k_stI, k_stB, ldC_some, stC_some, k_mkfn, k_slc, k_slcA, k_ixA, k_ixBs, k_ixSl, k_fadr, k_fld, k_ext, k_len, k_app, k_mn, k_mx, k_nilck, k_build, k_bsl1, k_bsl2, b_add, b_sub, b_mul, b_eql, b_neq, b_lss, b_leq, b_gtr, b_geq, Dn.setLast, Dn.getLast, evalO, mapO, Dn.get, putE, keepE, TV.one, TV.isAgg, Dn.part, e0, e1, c33, c1, c2, ln, e8, e9, r1, e4, e5, e6, e7, r2, e10]
      · by_cases c3 : b < 1
        · simp [l5_1, b5_0, go_nil, go_last, go_past, go_pastR, go_blkN, go_blkR, go_blkE, go_skip, go_exit, go_ret, go_scope, go_seq, go_reg, go_block, go_cond, cnd_b, go_opsN, go_ops, go_opsG, grd_b, grd_u, stp_some, fin_some, up_some, cont_some, k_call, k_mv, k_pick, k_bin, k_eqB, k_eqA, k_not, k_neg, k_conv, k_alloc, k_boxA, k_boxI, k_boxB, k_boxN, k_boxBs, k_ldR, k_ldA, k_ldI, k_ldB, k_stA, k_stI, k_stB, ldC_some, stC_some, k_mkfn, k_slc, k_slcA, k_ixA, k_ixBs, k_ixSl, k_fadr, k_fld, k_ext, k_len, k_app, k_mn, k_mx, k_nilck, k_build, k_bsl1, k_bsl2, b_add, b_sub, b_mul, b_eql, b_neq, b_lss, b_leq, b_gtr, b_geq, Dn.setLast, Dn.getLast, evalO, mapO, Dn.get, putE, keepE, TV.one, TV.isAgg, Dn.part, e0, e1, c33, c1, c2, c3, ln, e8, e9, r1, e4, e5, e6, e7, r2, e10]
        · have c4 : 2000 < b := by unfold badShare at hb; omega
          simp [l5_1, b5_0, go_nil, go_last, go_past, go_pastR, go_blkN, go_blkR, go_blkE, go_skip, go_exit, go_ret, go_scope, go_seq, go_reg, go_block, go_cond, cnd_b, go_opsN, go_ops, go_opsG, grd_b, grd_u, stp_some, fin_some, up_some, cont_some, k_call, k_mv, k_pick, k_bin, k_eqB, k_eqA, k_not, k_neg, k_conv, k_alloc, k_boxA, k_boxI, k_boxB, k_boxN, k_boxBs, k_ldR, k_ldA, k_ldI, k_ldB, k_stA, k_stI, k_stB, ldC_some, stC_some, k_mkfn, k_slc, k_slcA, k_ixA, k_ixBs, k_ixSl, k_fadr, k_fld, k_ext, k_len, k_app, k_mn, k_mx, k_nilck, k_build, k_bsl1, k_bsl2, b_add, b_sub, b_mul, b_eql, b_neq, b_lss, b_leq, b_gtr, b_geq, Dn.setLast, Dn.getLast, evalO, mapO, Dn.get, putE, keepE, TV.one, TV.isAgg, Dn.part, e0, e1, c33, c1, c2, c3, c4, ln, e8, e9, r1, e4, e5, e6, e7, r2, e10]
  · have hn5 := hm.n5
    have hb' : 1 ≤ b ∧ b ≤ 2000 ∧ 0 ≤ a ∧ a ≤ b := by unfold badShare at hb; omega
    obtain ⟨r, c33, w1, w2, w3⟩ := call33 hF hm hb
    have c26 := call26 hF hm (elS_RV false false X) (a := a) (b := b) (by omega) (by omega)
    rw [prefs_tab] at c26
    obtain ⟨hr, c27, k1⟩ := call27 hF hn5 false false (pref X a b)
    obtain ⟨ir, c28, k2⟩ := call28 hF hn5 false false false (pref X a b) (l := nI r) (by rw [nI_len]; omega)
    have c1 : ¬ b < 1 := by omega
    have c2 : ¬ 2000 < b := by omega
    have c3 : ¬ a < 0 := by omega
    have c4 : ¬ b < a := by omega
    have hll := El.lt_len (E := elI) false (nI r)
    rw [l5_1, den_loop]
    by_cases hne : r = []
    · have hhr : hr = false := by
        rw [Bool.eq_false_iff]; intro h
        exact w1.1 hne (k1.1 h)
      subst hne
      rw [hhr] at c27
      have ln : ∀ H, lenK 0 (elI.lt false (nI [])) H = some 0 := fun _ => rfl
      simp [l5_1, b5_0, go_nil, go_last, go_past, go_pastR, go_blkN, go_blkR, go_blkE, go_skip, go_exit, go_ret, go_scope, go_seq, go_reg, go_block, go_cond, cnd_b, go_opsN, go_ops, go_opsG, grd_b, grd_u, stp_some, fin_some, up_some, cont_some, k_call, k_mv, k_pick, k_bin, k_eqB, k_eqA, k_not, k_neg, k_conv, k_alloc, k_boxA, k_boxI, k_boxB, k_boxN, k_boxBs, k_ldR, k_ldA, k_ldI, k_ldB, k_stA, k_stI, k_stB, ldC_some, stC_some, k_mkfn, k_slc, k_slcA, k_ixA, k_ixBs, k_ixSl, k_fadr, k_fld, k_ext, k_len, k_app, k_mn, k_mx, k_nilck, k_build, k_bsl1, k_bsl2, b_add, b_sub, b_mul, b_eql, b_neq, b_lss, b_leq, b_gtr, b_geq, Dn.setLast, Dn.getLast, evalO, mapO, Dn.get, putE, keepE, TV.one, TV.isAgg, Dn.part, e0, e1, c33, c1, c2, c3, c4, c26, c27, negb, ln, e8, e9, r1, e4, e5, e6, e7, r2, e10]
    · have hhr : hr = true := k1.2 (by
        apply Classical.byContradiction
        intro h; exact hne (w1.2 h))
      have hir : ir = true := k2.2 (w2 hne)
      rw [hhr] at c27
      rw [hir] at c28
      have hd : decide (r ≠ []) = true := by simpa using hne
      rw [hd] at c33
      simp [l5_1, b5_0, go_nil, go_last, go_past, go_pastR, go_blkN, go_blkR, go_blkE, go_skip, go_exit, go_ret, go_scope, go_seq, go_reg, go_block, go_cond, cnd_b, go_opsN, go_ops, go_opsG, grd_b, grd_u, stp_some, fin_some, up_some, cont_some, k_call, k_mv, k_pick, k_bin, k_eqB, k_eqA, k_not, k_neg, k_conv, k_alloc, k_boxA, k_boxI, k_boxB, k_boxN, k_boxBs, k_ldR, k_ldA, k_ldI, k_ldB, k_stA, k_stI, k_stB, ldC_some, stC_some, k_mkfn, k_slc, k_slcA, k_ixA, k_ixBs, k_ixSl, k_fadr, k_fld, k_ext, k_len, k_app, k_mn, k_mx, k_nilck, k_build, k_bsl1, k_bsl2, b_add, b_sub, b_mul, b_eql, b_neq, b_lss, b_leq, b_gtr, b_geq, Dn.setLast, Dn.getLast, evalO, mapO, Dn.get, putE, keepE, TV.one, TV.isAgg, Dn.part, e0, e1, c33, c1, c2, c3, c4, c26, c27, c28, negb, e8, e9, r1, e4, e5, e6, e7, r2, e10]

theorem run5 {pg : Pg} (hF : Free pg) (h24 : PFn pg 24 [] (.b true)) {T : TV} {l : List Obs} (hT : Rws T l) (hl : l.length ≤ 9223372036854775807) (n p q : Int) : ∃ H, bodyRun pg (den pg) 5 [T, .i .i64 n, .agg [.i .i64 p, .i .i64 q]] [] = some (.b true, H) := by
  obtain ⟨X, g, hm, c17⟩ := call17 hF hT hl n
  have c18 := call18m hF hm
  have c24 := fun H => PFn.call h24 (args := []) (ks := []) (fs := []) (cs := []) (H := H) (by simp [snapArgs])
  have s1 := l5_1_round hF hm p q (i := 0) (by omega) (H := [.cells [.i .i64 p, .i .i64 q] true])
  have s2 := l5_1_round hF hm (nextA p q) (nextB q) (i := 1) (by omega) (H := [.cells [.i .i64 p, .i .i64 q] true])
  have s3 : den pg l5_1 [(7, (elS false).lt false X), (8, (elS false).lt false X), (9, .i .i64 (nextA (nextA p q) (nextB q))), (10, .i .i64 (nextB (nextB q))), (11, .i .i64 2)] [.cells [.i .i64 p, .i .i64 q] true] = some ⟨.exit 0, [(7, (elS false).lt false X), (8, (elS false).lt false X), (9, .i .i64 (nextA (nextA p q) (nextB q))), (10, .i .i64 (nextB (nextB q))), (11, .i .i64 2), (26, .b false)], [.cells [.i .i64 p, .i .i64 q] true]⟩ := by
    rw [l5_1, den_loop]
    simp [b5_0, go_nil, go_last, go_past, go_pastR, go_blkN, go_blkR, go_blkE, go_skip, go_exit, go_ret, go_scope, go_seq, go_reg, go_block, go_cond, cnd_b, go_opsN, go_ops, go_opsG, grd_b, grd_u, stp_some, fin_some, up_some, cont_some, k_call, k_mv, k_pick, k_bin, k_eqB, k_eqA, k_not, k_neg, k_conv, k_alloc, k_boxA, k_boxI, k_boxB, k_boxN, k_boxBs, k_ldR, k_ldA, k_ldI, k_ldB, k_stA, k_stI, k_stB, ldC_some, stC_some, k_mkfn, k_slc, k_slcA, k_ixA, k_ixBs, k_ixSl, k_fadr, k_fld, k_ext, k_len, k_app, k_mn, k_mx, k_nilck, k_build, k_bsl1, k_bsl2, b_add, b_sub, b_mul, b_eql, b_neq, b_lss, b_leq, b_gtr, b_geq, Dn.setLast, Dn.getLast, evalO, mapO, Dn.get, putE, keepE, TV.one, TV.isAgg, Dn.part]
  have hs := s1.trans (s2.trans s3)
  refine ⟨[.cells [.i .i64 p, .i .i64 q] true], body_of (x := .ret) (e := [(6, .b true)]) (d := d5) (by rw [hF.F]; rfl) rfl ?_ (.inl rfl) rfl⟩
  simp [d5, c5, zipE, go_nil, go_last, go_past, go_pastR, go_blkN, go_blkR, go_blkE, go_skip, go_exit, go_ret, go_scope, go_seq, go_reg, go_block, go_cond, cnd_b, go_opsN, go_ops, go_opsG, grd_b, grd_u, stp_some, fin_some, up_some, cont_some, k_call, k_mv, k_pick, k_bin, k_eqB, k_eqA, k_not, k_neg, k_conv, k_alloc, k_boxA, k_boxI, k_boxB, k_boxN, k_boxBs, k_ldR, k_ldA, k_ldI, k_ldB, k_stA, k_stI, k_stB, ldC_some, stC_some, k_mkfn, k_slc, k_slcA, k_ixA, k_ixBs, k_ixSl, k_fadr, k_fld, k_ext, k_len, k_app, k_mn, k_mx, k_nilck, k_build, k_bsl1, k_bsl2, b_add, b_sub, b_mul, b_eql, b_neq, b_lss, b_leq, b_gtr, b_geq, Dn.setLast, Dn.getLast, evalO, mapO, Dn.get, putE, keepE, TV.one, TV.isAgg, Dn.part, c17, c18, go_denK (c := l5_1) rfl, hs, c24]

end Go.Proofs.Tryd.Dn

