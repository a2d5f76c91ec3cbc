/-
  The program: whether a list is a ring of tastes; a ring of all.
-/
import Derived.Test.YtgmlmmgpcbollaaDoorQi
set_option linter.unusedSimpArgs false
set_option linter.unusedVariables false

namespace Go.Proofs.Tryd.Dn
open Go.Dn

theorem sv_take {pg : Pg} {R : Rec} {L : TV} {l : List Int} (h : SV L l) {i : Nat} (hi : i ≤ l.length) (H : Heap) : ∃ v, dkc pg R (.slc false true false 1 false) [L, .i .i64 (i : Int)] H = some (v, H) ∧ SV v (l.take i) := by
  have hb : bounds3 false true false l.length [.i .i64 (i : Int)] = some (0, i, none) := by simp [bounds3, bound, hi]
  rcases h with ⟨rfl, rfl⟩ | ⟨b, rfl⟩
  · have h0 : i = 0 := by simpa using hi
    subst h0
    have hb0 : bounds3 false true false 0 [.i .i64 ((0 : Nat) : Int)] = some (0, 0, none) := hb
    refine ⟨.nilsl, ?_, .inl ⟨rfl, rfl⟩⟩
    rw [k_slc]
    simp only [slcRun, hb0, Option.bind_some, Option.getD_none, and_self, if_true, up]
    rfl
  · refine ⟨.bs b 1 ((l.take i).map elI.val), ?_, .inr ⟨b, rfl⟩⟩
    rw [k_slc]
    simp only [slcRun, List.length_map, hb, Option.bind_some, true_and, Option.getD_none, Nat.le_refl, hi, and_self, if_true, List.drop_zero, Nat.sub_zero, List.map_take, up]
    rfl

theorem l94_all {pg : Pg} {T : TV} {l : List Int} (hT : ∀ H, elI.View H T l) (hl : l.length ≤ 1000) (x : Int) {H : Heap} : ∀ (k i : Nat), i + k = l.length →
    ∃ y e, den pg l94_1 [(0, T), (1, .i .i64 x), (7, .i .i64 (l.length : Int)), (8, .i .i64 (i : Int))] H = some ⟨y, e, H⟩ ∧ (y = .exit 0 ∧ firstIdx (x == ·) (l.drop i) i = -1 ∨ y = .ret ∧ e = [(4, .i .i64 (firstIdx (x == ·) (l.drop i) i))])
  | 0, i, h => by
    have e1 : ¬ ((i : Int) < (l.length : Int)) := by omega
    refine ⟨.exit 0, [(0, T), (1, .i .i64 x), (7, .i .i64 (l.length : Int)), (8, .i .i64 (i : Int)), (9, .b false)], ?_, .inl ⟨rfl, ?_⟩⟩
    · rw [l94_1, den_loop]
      simp [b94_0, go_nil, go_last, go_past, go_pastR, go_blkN, go_blkR, go_blkE, go_skip, go_exit, go_ret, go_scope, go_seq, go_reg, go_block, go_cond, cnd_b, go_opsN, go_ops, go_opsG, grd_b, grd_u, stp_some, fin_some, up_some, cont_some, k_call, k_mv, k_pick, k_bin, k_eqB, k_eqA, k_not, k_neg, k_conv, k_alloc, k_boxA, k_boxI, k_boxB, k_boxN, k_boxBs, k_ldR, k_ldA, k_ldI, k_ldB, k_stA, k_stI, k_stB, ldC_some, stC_some, k_mkfn, k_slc, k_slcA, k_ixA, k_ixBs, k_ixSl, k_fadr, k_fld, k_ext, k_len, k_app, k_mn, k_mx, k_nilck, k_build, k_bsl1, k_bsl2, b_add, b_sub, b_mul, b_eql, b_neq, b_lss, b_leq, b_gtr, b_geq, Dn.setLast, Dn.getLast, evalO, mapO, Dn.get, putE, keepE, TV.one, TV.isAgg, Dn.part, e1]
    · rw [List.drop_eq_nil_of_le (by omega)]; rfl
  | k + 1, i, h => by
    have hi : i < l.length := by omega
    have e1 : ((i : Int) < (l.length : Int)) := by omega
    have e2 : wrapR .i64 ((i : Int) + 1) = .i .i64 ((i : Int) + 1) := wrapR_i64 (by omega)
    obtain ⟨p, hp, hv⟩ := ixI (pg := pg) (R := den pg) (hT H) (List.getElem?_eq_getElem hi)
    have hd : l.drop i = l[i] :: l.drop (i + 1) := List.drop_eq_getElem_cons hi
    rw [hd]
    generalize l[i] = y at *
    by_cases hP : (x == y) = true
    · refine ⟨.ret, [(4, .i .i64 (i : Int))], ?_, .inr ⟨rfl, by simp only [firstIdx, hP, if_true]⟩⟩
      rw [l94_1, den_loop]
      simp [-beq_iff_eq, b94_0, go_nil, go_last, go_past, go_pastR, go_blkN, go_blkR, go_blkE, go_skip, go_exit, go_ret, go_scope, go_seq, go_reg, go_block, go_cond, cnd_b, go_opsN, go_ops, go_opsG, grd_b, grd_u, stp_some, fin_some, up_some, cont_some, k_call, k_mv, k_pick, k_bin, k_eqB, k_eqA, k_not, k_neg, k_conv, k_alloc, k_boxA, k_boxI, k_boxB, k_boxN, k_boxBs, k_ldR, k_ldA, k_ldI, k_ldB, k_stA, k_stI, k_stB, ldC_some, stC_some, k_mkfn, k_slc, k_slcA, k_ixA, k_ixBs, k_ixSl, k_fadr, k_fld, k_ext, k_len, k_app, k_mn, k_mx, k_nilck, k_build, k_bsl1, k_bsl2, b_add, b_sub, b_mul, b_eql, b_neq, b_lss, b_leq, b_gtr, b_geq, Dn.setLast, Dn.getLast, evalO, mapO, Dn.get, putE, keepE, TV.one, TV.isAgg, Dn.part, e1, hp, hv, hP]
    · have hP' : (x == y) = false := by simpa using hP
      obtain ⟨z, e, h1, h2⟩ := l94_all (pg := pg) hT hl x (H := H) k (i + 1) (by omega)
      refine ⟨z, e, Eq.trans ?_ h1, by simpa only [firstIdx, hP', Bool.false_eq_true, if_false] using h2⟩
      rw [l94_1, den_loop]
      simp [l94_1, b94_0, go_nil, go_last, go_past, go_pastR, go_blkN, go_blkR, go_blkE, go_skip, go_exit, go_ret, go_scope, go_seq, go_reg, go_block, go_cond, cnd_b, go_opsN, go_ops, go_opsG, grd_b, grd_u, stp_some, fin_some, up_some, cont_some, k_call, k_mv, k_pick, k_bin, k_eqB, k_eqA, k_not, k_neg, k_conv, k_alloc, k_boxA, k_boxI, k_boxB, k_boxN, k_boxBs, k_ldR, k_ldA, k_ldI, k_ldB, k_stA, k_stI, k_stB, ldC_some, stC_some, k_mkfn, k_slc, k_slcA, k_ixA, k_ixBs, k_ixSl, k_fadr, k_fld, k_ext, k_len, k_app, k_mn, k_mx, k_nilck, k_build, k_bsl1, k_bsl2, b_add, b_sub, b_mul, b_eql, b_neq, b_lss, b_leq, b_gtr, b_geq, Dn.setLast, Dn.getLast, evalO, mapO, Dn.get, putE, keepE, TV.one, TV.isAgg, Dn.part, e1, e2, hp, hv, hP']

theorem fn94 {pg : Pg} (hF : Free pg) {T : TV} {l : List Int} (hT : SV T l) (hl : l.length ≤ 1000) (x : Int) : PFn pg 94 [T, .i .i64 x] (.i .i64 (firstIdx (x == ·) l 0)) := by
  obtain ⟨y, e, h1, h2⟩ := l94_all (pg := pg) (fun H => hT.view H) hl x (H := []) l.length 0 (by omega)
  have hlen := (hT.view []).lenK
  simp only [List.drop_zero, Int.natCast_zero] at h1 h2
  refine .of1 (x := .ret) (e := [(4, .i .i64 (firstIdx (x == ·) l 0))]) (H' := []) (hF.S _ _ (by decide)) (d := d94) (by rw [hF.F]; rfl) rfl ?_ (.inl rfl) rfl (by simp [sn_i, sn_b, sn_nil, sn8_i, sn8_b, sn8_nil, sn7_i, sn7_b, sn_sl, sn8_sl, slB_some, sn_tup, sn_agg, sn8_agg, mapO, elems])
  rcases h2 with ⟨rfl, h2⟩ | ⟨rfl, rfl⟩
  · simp [d94, c94, zipE, go_nil, go_last, go_past, go_pastR, go_blkN, go_blkR, go_blkE, go_skip, go_exit, go_ret, go_scope, go_seq, go_reg, go_block, go_cond, cnd_b, go_opsN, go_ops, go_opsG, grd_b, grd_u, stp_some, fin_some, up_some, cont_some, k_call, k_mv, k_pick, k_bin, k_eqB, k_eqA, k_not, k_neg, k_conv, k_alloc, k_boxA, k_boxI, k_boxB, k_boxN, k_boxBs, k_ldR, k_ldA, k_ldI, k_ldB, k_stA, k_stI, k_stB, ldC_some, stC_some, k_mkfn, k_slc, k_slcA, k_ixA, k_ixBs, k_ixSl, k_fadr, k_fld, k_ext, k_len, k_app, k_mn, k_mx, k_nilck, k_build, k_bsl1, k_bsl2, b_add, b_sub, b_mul, b_eql, b_neq, b_lss, b_leq, b_gtr, b_geq, Dn.setLast, Dn.getLast, evalO, mapO, Dn.get, putE, keepE, TV.one, TV.isAgg, Dn.part, hlen, go_denK (c := l94_1) rfl, h1, h2]
  · simp [d94, c94, zipE, go_nil, go_last, go_past, go_pastR, go_blkN, go_blkR, go_blkE, go_skip, go_exit, go_ret, go_scope, go_seq, go_reg, go_block, go_cond, cnd_b, go_opsN, go_ops, go_opsG, grd_b, grd_u, stp_some, fin_some, up_some, cont_some, k_call, k_mv, k_pick, k_bin, k_eqB, k_eqA, k_not, k_neg, k_conv, k_alloc, k_boxA, k_boxI, k_boxB, k_boxN, k_boxBs, k_ldR, k_ldA, k_ldI, k_ldB, k_stA, k_stI, k_stB, ldC_some, stC_some, k_mkfn, k_slc, k_slcA, k_ixA, k_ixBs, k_ixSl, k_fadr, k_fld, k_ext, k_len, k_app, k_mn, k_mx, k_nilck, k_build, k_bsl1, k_bsl2, b_add, b_sub, b_mul, b_eql, b_neq, b_lss, b_leq, b_gtr, b_geq, Dn.setLast, Dn.getLast, evalO, mapO, Dn.get, putE, keepE, TV.one, TV.isAgg, Dn.part, hlen, go_denK (c := l94_1) rfl, h1]

theorem any_mem (x : Int) (l : List Int) : l.any (x == ·) = decide (x ∈ l) := by
  rw [Bool.eq_iff_iff]
  simp only [List.any_eq_true, beq_iff_eq, decide_eq_true_eq]
  exact ⟨fun ⟨y, h, e⟩ => e ▸ h, fun h => ⟨x, h, rfl⟩⟩

theorem fn85 {pg : Pg} (hF : Free pg) {T : TV} {l : List Int} (hT : SV T l) (hl : l.length ≤ 1000) (x : Int) : PFn pg 85 [T, .i .i64 x] (.b (decide (x ∈ l))) := by
  obtain ⟨T', h1, h2⟩ := hT.snap [] 7
  have c94 := fun (H : Heap) (hH : Dn.snap .borrow H 9 T = some T') => PFn.call (fn94 hF h2 hl x) (args := [T, .i .i64 x]) (ks := []) (fs := []) (cs := []) (H := H) (by simp [snapArgs, hH, sn_i])
  have hc := c94 [] h1
  have hP := firstIdx_any (x == ·) l 0
  rw [any_mem] at hP
  generalize firstIdx (x == ·) l 0 = r at *
  refine .of1 (x := .ret) (e := [(4, .b (decide (x ∈ l)))]) (H' := []) (hF.S _ _ (by decide)) (d := d85) (by rw [hF.F]; rfl) rfl ?_ (.inl rfl) rfl (by simp [sn_i, sn_b, sn_nil, sn8_i, sn8_b, sn8_nil, sn7_i, sn7_b, sn_sl, sn8_sl, slB_some, sn_tup, sn_agg, sn8_agg, mapO, elems])
  simp only [← hP]
  simp [d85, c85, zipE, go_nil, go_last, go_past, go_pastR, go_blkN, go_blkR, go_blkE, go_skip, go_exit, go_ret, go_scope, go_seq, go_reg, go_block, go_cond, cnd_b, go_opsN, go_ops, go_opsG, grd_b, grd_u, stp_some, fin_some, up_some, cont_some, k_call, k_mv, k_pick, k_bin, k_eqB, k_eqA, k_not, k_neg, k_conv, k_alloc, k_boxA, k_boxI, k_boxB, k_boxN, k_boxBs, k_ldR, k_ldA, k_ldI, k_ldB, k_stA, k_stI, k_stB, ldC_some, stC_some, k_mkfn, k_slc, k_slcA, k_ixA, k_ixBs, k_ixSl, k_fadr, k_fld, k_ext, k_len, k_app, k_mn, k_mx, k_nilck, k_build, k_bsl1, k_bsl2, b_add, b_sub, b_mul, b_eql, b_neq, b_lss, b_leq, b_gtr, b_geq, Dn.setLast, Dn.getLast, evalO, mapO, Dn.get, putE, keepE, TV.one, TV.isAgg, Dn.part, hc]

theorem call85 {pg : Pg} (hF : Free pg) {T : TV} {l : List Int} (hT : SV T l) (hl : l.length ≤ 1000) (x : Int) (H : Heap) : callRun pg (den pg) (.pu []) [.fn 85 [] [], T, .i .i64 x] H = some (.b (decide (x ∈ l)), H) := by
  obtain ⟨T', h1, h2⟩ := hT.snap H 7
  exact PFn.call (fn85 hF h2 hl x) (args := [T, .i .i64 x]) (by simp [snapArgs, h1, sn_i])

theorem l69_1_all {pg : Pg} (hF : Free pg) {X : List Obs} {g : Nat} (hm : Market X g) {L : TV} {l : List Int} (hL : SV L l) (hl : l.length ≤ 100) {H : Heap} : ∀ (d i : Nat), i + d = l.length → (∀ x ∈ l.take i, 0 ≤ x ∧ x < (X.length : Int)) → (l.take i).Nodup →
    (okRing X.length l → ∃ e, den pg l69_1 [(0, mV X), (1, L), (5, .b false), (11, L), (12, .i .i64 (l.length : Int)), (13, .i .i64 (i : Int))] H = some ⟨.exit 0, e, H⟩ ∧ keepE [0, 1, 5] e = [(0, mV X), (1, L), (5, .b false)]) ∧
    (¬ okRing X.length l → den pg l69_1 [(0, mV X), (1, L), (5, .b false), (11, L), (12, .i .i64 (l.length : Int)), (13, .i .i64 (i : Int))] H = some ⟨.ret, [(4, .b false)], H⟩)
  | 0, i, h, hr, hnd => by
    have e1 : ¬ ((i : Int) < (l.length : Int)) := by omega
    rw [List.take_of_length_le (by omega)] at hr hnd
    refine ⟨fun _ => ⟨[(0, mV X), (1, L), (5, .b false), (11, L), (12, .i .i64 (l.length : Int)), (13, .i .i64 (i : Int)), (14, .b false)], ?_, rfl⟩, fun hno => absurd ⟨hr, hnd⟩ hno⟩
    rw [l69_1, den_loop]
    simp [b69_0, go_nil, go_last, go_past, go_pastR, go_blkN, go_blkR, go_blkE, go_skip, go_exit, go_ret, go_scope, go_seq, go_reg, go_block, go_cond, cnd_b, go_opsN, go_ops, go_opsG, grd_b, grd_u, stp_some, fin_some, up_some, cont_some, k_call, k_mv, k_pick, k_bin, k_eqB, k_eqA, k_not, k_neg, k_conv, k_alloc, k_boxA, k_boxI, k_boxB, k_boxN, k_boxBs, k_ldR, k_ldA, k_ldI, k_ldB, k_stA, k_stI, k_stB, ldC_some, stC_some, k_mkfn, k_slc, k_slcA, k_ixA, k_ixBs, k_ixSl, k_fadr, k_fld, k_ext, k_len, k_app, k_mn, k_mx, k_nilck, k_build, k_bsl1, k_bsl2, b_add, b_sub, b_mul, b_eql, b_neq, b_lss, b_leq, b_gtr, b_geq, Dn.setLast, Dn.getLast, evalO, mapO, Dn.get, putE, keepE, TV.one, TV.isAgg, Dn.part, e1]
  | d + 1, i, h, hr, hnd => by
    have hi : i < l.length := by omega
    have e1 : ((i : Int) < (l.length : Int)) := by omega
    have e2 : wrapR .i64 ((i : Int) + 1) = .i .i64 ((i : Int) + 1) := wrapR_i64 (by omega)
    have hx : l[i]? = some l[i] := List.getElem?_eq_getElem hi
    have hmem : l[i] ∈ l := List.getElem_mem hi
    obtain ⟨p, hp, hv⟩ := ixI (pg := pg) (R := den pg) (hL.view H) hx
    have fN := fadr_mN (pg := pg) (R := den pg) true (X.length : Int) (costF X) H
    obtain ⟨v, hs, hsv⟩ := sv_take (pg := pg) (R := den pg) hL (i := i) (by omega) H
    have c85 := call85 hF hsv (by simp; omega) l[i] H
    have ht : l.take (i + 1) = l.take i ++ [l[i]] := by rw [List.take_add_one, hx]; rfl
    by_cases x0 : l[i] < 0
    · refine ⟨fun hok => absurd (hok.1 _ hmem).1 (by omega), fun _ => ?_⟩
      simp only [mV, mX] at fN ⊢
      rw [l69_1, den_loop]
      simp [b69_0, go_nil, go_last, go_past, go_pastR, go_blkN, go_blkR, go_blkE, go_skip, go_exit, go_ret, go_scope, go_seq, go_reg, go_block, go_cond, cnd_b, go_opsN, go_ops, go_opsG, grd_b, grd_u, stp_some, fin_some, up_some, cont_some, k_call, k_mv, k_pick, k_bin, k_eqB, k_eqA, k_not, k_neg, k_conv, k_alloc, k_boxA, k_boxI, k_boxB, k_boxN, k_boxBs, k_ldR, k_ldA, k_ldI, k_ldB, k_stA, k_stI, k_stB, ldC_some, stC_some, k_mkfn, k_slc, k_slcA, k_ixA, k_ixBs, k_ixSl, k_fadr, k_fld, k_ext, k_len, k_app, k_mn, k_mx, k_nilck, k_build, k_bsl1, k_bsl2, b_add, b_sub, b_mul, b_eql, b_neq, b_lss, b_leq, b_gtr, b_geq, Dn.setLast, Dn.getLast, evalO, mapO, Dn.get, putE, keepE, TV.one, TV.isAgg, Dn.part, e1, hp, hv, x0]
    · by_cases x1 : (X.length : Int) ≤ l[i]
      · refine ⟨fun hok => absurd (hok.1 _ hmem).2 (by omega), fun _ => ?_⟩
        simp only [mV, mX] at fN ⊢
        rw [l69_1, den_loop]
        simp [b69_0, go_nil, go_last, go_past, go_pastR, go_blkN, go_blkR, go_blkE, go_skip, go_exit, go_ret, go_scope, go_seq, go_reg, go_block, go_cond, cnd_b, go_opsN, go_ops, go_opsG, grd_b, grd_u, stp_some, fin_some, up_some, cont_some, k_call, k_mv, k_pick, k_bin, k_eqB, k_eqA, k_not, k_neg, k_conv, k_alloc, k_boxA, k_boxI, k_boxB, k_boxN, k_boxBs, k_ldR, k_ldA, k_ldI, k_ldB, k_stA, k_stI, k_stB, ldC_some, stC_some, k_mkfn, k_slc, k_slcA, k_ixA, k_ixBs, k_ixSl, k_fadr, k_fld, k_ext, k_len, k_app, k_mn, k_mx, k_nilck, k_build, k_bsl1, k_bsl2, b_add, b_sub, b_mul, b_eql, b_neq, b_lss, b_leq, b_gtr, b_geq, Dn.setLast, Dn.getLast, evalO, mapO, Dn.get, putE, keepE, TV.one, TV.isAgg, Dn.part, e1, hp, hv, x0, k_nilckB, fN, x1]
      · by_cases hin : l[i] ∈ l.take i
        · have hdt : decide (l[i] ∈ l.take i) = true := by simpa using hin
          rw [hdt] at c85
          refine ⟨fun hok => ?_, fun _ => ?_⟩
          · exfalso
            have h1 : (l.take (i + 1)).Nodup := hok.2.sublist (List.take_sublist _ _)
            rw [ht, List.nodup_append] at h1
            exact h1.2.2 _ hin _ (by simp) rfl
          · simp only [mV, mX] at fN ⊢
            rw [l69_1, den_loop]
            simp [b69_0, go_nil, go_last, go_past, go_pastR, go_blkN, go_blkR, go_blkE, go_skip, go_exit, go_ret, go_scope, go_seq, go_reg, go_block, go_cond, cnd_b, go_opsN, go_ops, go_opsG, grd_b, grd_u, stp_some, fin_some, up_some, cont_some, k_call, k_mv, k_pick, k_bin, k_eqB, k_eqA, k_not, k_neg, k_conv, k_alloc, k_boxA, k_boxI, k_boxB, k_boxN, k_boxBs, k_ldR, k_ldA, k_ldI, k_ldB, k_stA, k_stI, k_stB, ldC_some, stC_some, k_mkfn, k_slc, k_slcA, k_ixA, k_ixBs, k_ixSl, k_fadr, k_fld, k_ext, k_len, k_app, k_mn, k_mx, k_nilck, k_build, k_bsl1, k_bsl2, b_add, b_sub, b_mul, b_eql, b_neq, b_lss, b_leq, b_gtr, b_geq, Dn.setLast, Dn.getLast, evalO, mapO, Dn.get, putE, keepE, TV.one, TV.isAgg, Dn.part, e1, hp, hv, x0, k_nilckB, fN, x1, hs, c85]
        · have hdf : decide (l[i] ∈ l.take i) = false := by simpa using hin
          rw [hdf] at c85
          have hstep : den pg l69_1 [(0, mV X), (1, L), (5, .b false), (11, L), (12, .i .i64 (l.length : Int)), (13, .i .i64 (i : Int))] H = den pg l69_1 [(0, mV X), (1, L), (5, .b false), (11, L), (12, .i .i64 (l.length : Int)), (13, .i .i64 ((i + 1 : Nat) : Int))] H := by
            simp only [mV, mX] at fN ⊢
            rw [l69_1, den_loop]
            simp [l69_1, b69_0, go_nil, go_last, go_past, go_pastR, go_blkN, go_blkR, go_blkE, go_skip, go_exit, go_ret, go_scope, go_seq, go_reg, go_block, go_cond, cnd_b, go_opsN, go_ops, go_opsG, grd_b, grd_u, stp_some, fin_some, up_some, cont_some, k_call, k_mv, k_pick, k_bin, k_eqB, k_eqA, k_not, k_neg, k_conv, k_alloc, k_boxA, k_boxI, k_boxB, k_boxN, k_boxBs, k_ldR, k_ldA, k_ldI, k_ldB, k_stA, k_stI, k_stB, ldC_some, stC_some, k_mkfn, k_slc, k_slcA, k_ixA, k_ixBs, k_ixSl, k_fadr, k_fld, k_ext, k_len, k_app, k_mn, k_mx, k_nilck, k_build, k_bsl1, k_bsl2, b_add, b_sub, b_mul, b_eql, b_neq, b_lss, b_leq, b_gtr, b_geq, Dn.setLast, Dn.getLast, evalO, mapO, Dn.get, putE, keepE, TV.one, TV.isAgg, Dn.part, e1, e2, hp, hv, x0, k_nilckB, fN, x1, hs, c85]
          rw [hstep]
          refine l69_1_all hF hm hL hl (H := H) d (i + 1) (by omega) ?_ ?_
          · rw [ht]
            intro x hx'
            rcases List.mem_append.1 hx' with h1 | h1
            · exact hr x h1
            · simp at h1; subst h1; omega
          · rw [ht, List.nodup_append]
            exact ⟨hnd, by simp, fun a ha b hb => by simp at hb; subst hb; rintro rfl; exact hin ha⟩

theorem l69_3_all {pg : Pg} (hF : Free pg) {X : List Obs} {g : Nat} (hm : Market X g) {L : TV} {l : List Int} (hL : SV L l) (hl : l.length ≤ 100) (hok : okRing X.length l) {H : Heap} : ∀ (d i : Nat) (s : Bool), i + d = l.length →
    ((∀ j, i ≤ j → j < l.length → pvf (pref X 1 1) l j ≠ 0) → ∃ e, den pg l69_3 [(0, mV X), (1, L), (5, .b s), (36, L), (37, .i .i64 (l.length : Int)), (38, .i .i64 (i : Int))] H = some ⟨.exit 2, e, H⟩ ∧ Dn.get e 1 = some L ∧ ∃ s', Dn.get e 5 = some (.b s') ∧ (s' = true ↔ s = true ∨ ∃ j, i ≤ j ∧ j < l.length ∧ pvf (pref X 1 1) l j = 2)) ∧
    ((¬ ∀ j, i ≤ j → j < l.length → pvf (pref X 1 1) l j ≠ 0) → den pg l69_3 [(0, mV X), (1, L), (5, .b s), (36, L), (37, .i .i64 (l.length : Int)), (38, .i .i64 (i : Int))] H = some ⟨.ret, [(4, .b false)], H⟩)
  | 0, i, s, h => by
    have e1 : ¬ ((i : Int) < (l.length : Int)) := by omega
    refine ⟨fun _ => ⟨[(0, mV X), (1, L), (5, .b s), (36, L), (37, .i .i64 (l.length : Int)), (38, .i .i64 (i : Int)), (39, .b false)], ?_, rfl, s, rfl, ⟨.inl, fun h' => h'.elim id fun ⟨j, h1, h2, _⟩ => by omega⟩⟩, fun hno => absurd (fun j h1 h2 => by omega) hno⟩
    rw [l69_3, den_loop]
    simp [b69_2, go_nil, go_last, go_past, go_pastR, go_blkN, go_blkR, go_blkE, go_skip, go_exit, go_ret, go_scope, go_seq, go_reg, go_block, go_cond, cnd_b, go_opsN, go_ops, go_opsG, grd_b, grd_u, stp_some, fin_some, up_some, cont_some, k_call, k_mv, k_pick, k_bin, k_eqB, k_eqA, k_not, k_neg, k_conv, k_alloc, k_boxA, k_boxI, k_boxB, k_boxN, k_boxBs, k_ldR, k_ldA, k_ldI, k_ldB, k_stA, k_stI, k_stB, ldC_some, stC_some, k_mkfn, k_slc, k_slcA, k_ixA, k_ixBs, k_ixSl, k_fadr, k_fld, k_ext, k_len, k_app, k_mn, k_mx, k_nilck, k_build, k_bsl1, k_bsl2, b_add, b_sub, b_mul, b_eql, b_neq, b_lss, b_leq, b_gtr, b_geq, Dn.setLast, Dn.getLast, evalO, mapO, Dn.get, putE, keepE, TV.one, TV.isAgg, Dn.part, e1]
  | d + 1, i, s, h => by
    have hi : i < l.length := by omega
    have hm' : (i + 1) % l.length < l.length := Nat.mod_lt _ (by omega)
    have e1 : ((i : Int) < (l.length : Int)) := by omega
    have e2 : wrapR .i64 ((i : Int) + 1) = .i .i64 ((i : Int) + 1) := wrapR_i64 (by omega)
    have hlen := (hL.view H).lenK
    have hrem : binI .rem (.i .i64 ((i : Int) + 1)) (.i .i64 (l.length : Int)) = some (.i .i64 (((i + 1) % l.length : Nat) : Int)) := by
      rw [b_rem, if_neg (by omega), Int.tmod_eq_emod_of_nonneg (by omega)]
      simp
    have hx := getD_get hi
    have hy := getD_get hm'
    have rx := hok.1 _ (List.mem_of_getElem? hx)
    have ry := hok.1 _ (List.mem_of_getElem? hy)
    obtain ⟨a, ha⟩ : ∃ a : Nat, l.getD i 0 = (a : Int) := ⟨(l.getD i 0).toNat, by omega⟩
    obtain ⟨b, hb⟩ : ∃ b : Nat, l.getD ((i + 1) % l.length) 0 = (b : Int) := ⟨(l.getD ((i + 1) % l.length) 0).toNat, by omega⟩
    have hpv : pvf (pref X 1 1) l i = pref X 1 1 a b := by unfold pvf; rw [ha, hb]; rfl
    rw [ha] at hx rx
    rw [hb] at hy ry
    obtain ⟨p1, hp1, hv1⟩ := ixI (pg := pg) (R := den pg) (hL.view H) hx
    obtain ⟨p2, hp2, hv2⟩ := ixI (pg := pg) (R := den pg) (hL.view H) hy
    have c74 := call74v hF hm (i := a) (k := b) (by omega) (by omega) (a := 1) (b := 1) (by omega) (by omega) H
    generalize (((i + 1) % l.length : Nat) : Int) = mm at hrem hp2
    by_cases h0 : pref X 1 1 a b = 0
    · refine ⟨fun hall => absurd (hpv.trans h0) (hall i (Nat.le_refl _) hi), fun _ => ?_⟩
      rw [h0] at c74
      rw [l69_3, den_loop]
      simp [b69_2, go_nil, go_last, go_past, go_pastR, go_blkN, go_blkR, go_blkE, go_skip, go_exit, go_ret, go_scope, go_seq, go_reg, go_block, go_cond, cnd_b, go_opsN, go_ops, go_opsG, grd_b, grd_u, stp_some, fin_some, up_some, cont_some, k_call, k_mv, k_pick, k_bin, k_eqB, k_eqA, k_not, k_neg, k_conv, k_alloc, k_boxA, k_boxI, k_boxB, k_boxN, k_boxBs, k_ldR, k_ldA, k_ldI, k_ldB, k_stA, k_stI, k_stB, ldC_some, stC_some, k_mkfn, k_slc, k_slcA, k_ixA, k_ixBs, k_ixSl, k_fadr, k_fld, k_ext, k_len, k_app, k_mn, k_mx, k_nilck, k_build, k_bsl1, k_bsl2, b_add, b_sub, b_mul, b_eql, b_neq, b_lss, b_leq, b_gtr, b_geq, Dn.setLast, Dn.getLast, evalO, mapO, Dn.get, putE, keepE, TV.one, TV.isAgg, Dn.part, hlen, e1, e2, hrem, hp1, hv1, hp2, hv2, hF.G, c74]
    · have h0' : (pref X 1 1 a b == 0) = false := by simpa using h0
      have hstep : den pg l69_3 [(0, mV X), (1, L), (5, .b s), (36, L), (37, .i .i64 (l.length : Int)), (38, .i .i64 (i : Int))] H = den pg l69_3 [(0, mV X), (1, L), (5, .b (s || decide (pref X 1 1 a b = 2))), (36, L), (37, .i .i64 (l.length : Int)), (38, .i .i64 ((i + 1 : Nat) : Int))] H := by
        rw [l69_3, den_loop]
        cases s with
        | true => simp [l69_3, b69_2, go_nil, go_last, go_past, go_pastR, go_blkN, go_blkR, go_blkE, go_skip, go_exit, go_ret, go_scope, go_seq, go_reg, go_block, go_cond, cnd_b, go_opsN, go_ops, go_opsG, grd_b, grd_u, stp_some, fin_some, up_some, cont_some, k_call, k_mv, k_pick, k_bin, k_eqB, k_eqA, k_not, k_neg, k_conv, k_alloc, k_boxA, k_boxI, k_boxB, k_boxN, k_boxBs, k_ldR, k_ldA, k_ldI, k_ldB, k_stA, k_stI, k_stB, ldC_some, stC_some, k_mkfn, k_slc, k_slcA, k_ixA, k_ixBs, k_ixSl, k_fadr, k_fld, k_ext, k_len, k_app, k_mn, k_mx, k_nilck, k_build, k_bsl1, k_bsl2, b_add, b_sub, b_mul, b_eql, b_neq, b_lss, b_leq, b_gtr, b_geq, Dn.setLast, Dn.getLast, evalO, mapO, Dn.get, putE, keepE, TV.one, TV.isAgg, Dn.part, hlen, e1, e2, hrem, hp1, hv1, hp2, hv2, hF.G, c74, h0']
        | false =>
          by_cases h2 : pref X 1 1 a b = 2
          · rw [h2] at c74
            simp [l69_3, b69_2, go_nil, go_last, go_past, go_pastR, go_blkN, go_blkR, go_blkE, go_skip, go_exit, go_ret, go_scope, go_seq, go_reg, go_block, go_cond, cnd_b, go_opsN, go_ops, go_opsG, grd_b, grd_u, stp_some, fin_some, up_some, cont_some, k_call, k_mv, k_pick, k_bin, k_eqB, k_eqA, k_not, k_neg, k_conv, k_alloc, k_boxA, k_boxI, k_boxB, k_boxN, k_boxBs, k_ldR, k_ldA, k_ldI, k_ldB, k_stA, k_stI, k_stB, ldC_some, stC_some, k_mkfn, k_slc, k_slcA, k_ixA, k_ixBs, k_ixSl, k_fadr, k_fld, k_ext, k_len, k_app, k_mn, k_mx, k_nilck, k_build, k_bsl1, k_bsl2, b_add, b_sub, b_mul, b_eql, b_neq, b_lss, b_leq, b_gtr, b_geq, Dn.setLast, Dn.getLast, evalO, mapO, Dn.get, putE, keepE, TV.one, TV.isAgg, Dn.part, hlen, e1, e2, hrem, hp1, hv1, hp2, hv2, hF.G, c74, h2]
          · have h2' : (pref X 1 1 a b == 2) = false := by simpa using h2
            simp [l69_3, b69_2, go_nil, go_last, go_past, go_pastR, go_blkN, go_blkR, go_blkE, go_skip, go_exit, go_ret, go_scope, go_seq, go_reg, go_block, go_cond, cnd_b, go_opsN, go_ops, go_opsG, grd_b, grd_u, stp_some, fin_some, up_some, cont_some, k_call, k_mv, k_pick, k_bin, k_eqB, k_eqA, k_not, k_neg, k_conv, k_alloc, k_boxA, k_boxI, k_boxB, k_boxN, k_boxBs, k_ldR, k_ldA, k_ldI, k_ldB, k_stA, k_stI, k_stB, ldC_some, stC_some, k_mkfn, k_slc, k_slcA, k_ixA, k_ixBs, k_ixSl, k_fadr, k_fld, k_ext, k_len, k_app, k_mn, k_mx, k_nilck, k_build, k_bsl1, k_bsl2, b_add, b_sub, b_mul, b_eql, b_neq, b_lss, b_leq, b_gtr, b_geq, Dn.setLast, Dn.getLast, evalO, mapO, Dn.get, putE, keepE, TV.one, TV.isAgg, Dn.part, hlen, e1, e2, hrem, hp1, hv1, hp2, hv2, hF.G, c74, h0', h2, h2']
      have hsplit : (∀ j, i ≤ j → j < l.length → pvf (pref X 1 1) l j ≠ 0) ↔ ∀ j, i + 1 ≤ j → j < l.length → pvf (pref X 1 1) l j ≠ 0 := by
        constructor
        · intro hall j h1 h2; exact hall j (by omega) h2
        · intro hall j h1 h2
          by_cases he : j = i
          · subst he; rw [hpv]; exact h0
          · exact hall j (by omega) h2
      obtain ⟨iy, inn⟩ := l69_3_all hF hm hL hl hok (H := H) d (i + 1) (s || decide (pref X 1 1 a b = 2)) (by omega)
      rw [hstep, hsplit]
      refine ⟨fun hall => ?_, inn⟩
      obtain ⟨e, k1, k2, s', k3, k4⟩ := iy hall
      refine ⟨e, k1, k2, s', k3, k4.trans ?_⟩
      simp only [Bool.or_eq_true, decide_eq_true_eq]
      constructor
      · rintro ((h1 | h1) | ⟨j, h1, h2, h3⟩)
        · exact .inl h1
        · exact .inr ⟨i, Nat.le_refl _, hi, hpv.trans h1⟩
        · exact .inr ⟨j, by omega, h2, h3⟩
      · rintro (h1 | ⟨j, h1, h2, h3⟩)
        · exact .inl (.inl h1)
        · by_cases he : j = i
          · subst he; exact .inl (.inr (hpv ▸ h3))
          · exact .inr ⟨j, by omega, h2, h3⟩

/-- whether a list is a ring: the program's -/
theorem call69 {pg : Pg} (hF : Free pg) {X : List Obs} {g : Nat} (hm : Market X g) {l : List Int} (hl : l.length ≤ 100) :
    ∃ r : Bool, (∀ H M L, H[M]? = some (.cells (mX X) true) → SV L l → callRun pg (den pg) (.pu []) [.fn 69 [] [], .ref M 0, L] H = some (.b r, H)) ∧ (r = true ↔ isRingP X.length (pref X 1 1) l) := by
  have hd : pg.F 69 = some d69 := by rw [hF.F]; rfl
  have fin : ∀ r : Bool, (∀ L, SV L l → go pg (den pg) [.c d69.body] .normal (zipE [mV X, L] 0) [] = some ⟨.ret, [(4, .b r)], []⟩) → ∀ H M L, H[M]? = some (.cells (mX X) true) → SV L l → callRun pg (den pg) (.pu []) [.fn 69 [] [], .ref M 0, L] H = some (.b r, H) := by
    intro r hr H M L hM hL
    obtain ⟨L', s1, s2⟩ := hL.snap H 7
    have h4 := mR_snap hM 7
    exact PFn.call (xs := [mV X, L']) (.of1 (x := .ret) (e := [(4, .b r)]) (H' := []) (hF.S _ _ (by decide)) hd rfl (hr L' s2) (.inl rfl) rfl (by simp [sn_i, sn_b, sn_nil, sn8_i, sn8_b, sn8_nil, sn7_i, sn7_b, sn_sl, sn8_sl, slB_some, sn_tup, sn_agg, sn8_agg, mapO, elems])) (args := [.ref M 0, L]) (by simp [snapArgs, h4, s1])
  by_cases hok : okRing X.length l
  · by_cases hall : ∀ j, 0 ≤ j → j < l.length → pvf (pref X 1 1) l j ≠ 0
    · by_cases hs : ∃ j, 0 ≤ j ∧ j < l.length ∧ pvf (pref X 1 1) l j = 2
      · by_cases h2l : 2 ≤ l.length
        · have e5 : (2 : Int) ≤ (l.length : Int) := by omega
          refine ⟨true, fin true fun L hL => ?_, ⟨fun _ => ⟨hok, fun i hi => hall i (Nat.zero_le _) hi, h2l, let ⟨j, _, h3, h4⟩ := hs; ⟨j, h3, h4⟩⟩, fun _ => rfl⟩⟩
          obtain ⟨e, h1, g0⟩ := (l69_1_all (pg := pg) hF hm hL hl (H := []) l.length 0 (by omega) (by simp) (by simp)).1 hok
          obtain ⟨e2, h2, k1, s', k7, hs'⟩ := (l69_3_all (pg := pg) hF hm hL hl hok (H := []) l.length 0 false (by omega)).1 hall
          have hst : s' = true := hs'.2 (.inr hs)
          subst hst
          have hll := (hL.view []).lenK
          have q0 := keep_get g0 (s := 0) (by simp) rfl
          have q1 := keep_get g0 (s := 1) (by simp) rfl
          have q5 := keep_get g0 (s := 5) (by simp) rfl
          simp only [Int.natCast_zero] at h1 h2
          simp [d69, c69, zipE, go_nil, go_last, go_past, go_pastR, go_blkN, go_blkR, go_blkE, go_skip, go_exit, go_ret, go_scope, go_seq, go_reg, go_block, go_cond, cnd_b, go_opsN, go_ops, go_opsG, grd_b, grd_u, stp_some, fin_some, up_some, cont_some, k_call, k_mv, k_pick, k_bin, k_eqB, k_eqA, k_not, k_neg, k_conv, k_alloc, k_boxA, k_boxI, k_boxB, k_boxN, k_boxBs, k_ldR, k_ldA, k_ldI, k_ldB, k_stA, k_stI, k_stB, ldC_some, stC_some, k_mkfn, k_slc, k_slcA, k_ixA, k_ixBs, k_ixSl, k_fadr, k_fld, k_ext, k_len, k_app, k_mn, k_mx, k_nilck, k_build, k_bsl1, k_bsl2, b_add, b_sub, b_mul, b_eql, b_neq, b_lss, b_leq, b_gtr, b_geq, Dn.setLast, Dn.getLast, evalO, mapO, Dn.get, putE, keepE, TV.one, TV.isAgg, Dn.part, hll, go_denK (c := l69_1) rfl, h1, q0, q1, q5, go_denK (c := l69_3) rfl, h2, k1, k7, e5]
        · have e5 : ¬ (2 : Int) ≤ (l.length : Int) := by omega
          refine ⟨false, fin false fun L hL => ?_, ⟨fun h => (by cases h), fun h => absurd h.2.2.1 h2l⟩⟩
          obtain ⟨e, h1, g0⟩ := (l69_1_all (pg := pg) hF hm hL hl (H := []) l.length 0 (by omega) (by simp) (by simp)).1 hok
          obtain ⟨e2, h2, k1, s', k7, hs'⟩ := (l69_3_all (pg := pg) hF hm hL hl hok (H := []) l.length 0 false (by omega)).1 hall
          have hll := (hL.view []).lenK
          have q0 := keep_get g0 (s := 0) (by simp) rfl
          have q1 := keep_get g0 (s := 1) (by simp) rfl
          have q5 := keep_get g0 (s := 5) (by simp) rfl
          simp only [Int.natCast_zero] at h1 h2
          simp [d69, c69, zipE, go_nil, go_last, go_past, go_pastR, go_blkN, go_blkR, go_blkE, go_skip, go_exit, go_ret, go_scope, go_seq, go_reg, go_block, go_cond, cnd_b, go_opsN, go_ops, go_opsG, grd_b, grd_u, stp_some, fin_some, up_some, cont_some, k_call, k_mv, k_pick, k_bin, k_eqB, k_eqA, k_not, k_neg, k_conv, k_alloc, k_boxA, k_boxI, k_boxB, k_boxN, k_boxBs, k_ldR, k_ldA, k_ldI, k_ldB, k_stA, k_stI, k_stB, ldC_some, stC_some, k_mkfn, k_slc, k_slcA, k_ixA, k_ixBs, k_ixSl, k_fadr, k_fld, k_ext, k_len, k_app, k_mn, k_mx, k_nilck, k_build, k_bsl1, k_bsl2, b_add, b_sub, b_mul, b_eql, b_neq, b_lss, b_leq, b_gtr, b_geq, Dn.setLast, Dn.getLast, evalO, mapO, Dn.get, putE, keepE, TV.one, TV.isAgg, Dn.part, hll, go_denK (c := l69_1) rfl, h1, q0, q1, q5, go_denK (c := l69_3) rfl, h2, k1, k7, e5]
      · refine ⟨false, fin false fun L hL => ?_, ⟨fun h => (by cases h), fun h => absurd (let ⟨j, h3, h4⟩ := h.2.2.2; ⟨j, Nat.zero_le _, h3, h4⟩) hs⟩⟩
        obtain ⟨e, h1, g0⟩ := (l69_1_all (pg := pg) hF hm hL hl (H := []) l.length 0 (by omega) (by simp) (by simp)).1 hok
        obtain ⟨e2, h2, k1, s', k7, hs'⟩ := (l69_3_all (pg := pg) hF hm hL hl hok (H := []) l.length 0 false (by omega)).1 hall
        have hst : s' = false := by
          rw [Bool.eq_false_iff]; intro h
          rcases hs'.1 h with h | h
          · cases h
          · exact hs h
        subst hst
        have hll := (hL.view []).lenK
        have q0 := keep_get g0 (s := 0) (by simp) rfl
        have q1 := keep_get g0 (s := 1) (by simp) rfl
        have q5 := keep_get g0 (s := 5) (by simp) rfl
        simp only [Int.natCast_zero] at h1 h2
        by_cases e5 : (2 : Int) ≤ (l.length : Int)
        · simp [d69, c69, zipE, go_nil, go_last, go_past, go_pastR, go_blkN, go_blkR, go_blkE, go_skip, go_exit, go_ret, go_scope, go_seq, go_reg, go_block, go_cond, cnd_b, go_opsN, go_ops, go_opsG, grd_b, grd_u, stp_some, fin_some, up_some, cont_some, k_call, k_mv, k_pick, k_bin, k_eqB, k_eqA, k_not, k_neg, k_conv, k_alloc, k_boxA, k_boxI, k_boxB, k_boxN, k_boxBs, k_ldR, k_ldA, k_ldI, k_ldB, k_stA, k_stI, k_stB, ldC_some, stC_some, k_mkfn, k_slc, k_slcA, k_ixA, k_ixBs, k_ixSl, k_fadr, k_fld, k_ext, k_len, k_app, k_mn, k_mx, k_nilck, k_build, k_bsl1, k_bsl2, b_add, b_sub, b_mul, b_eql, b_neq, b_lss, b_leq, b_gtr, b_geq, Dn.setLast, Dn.getLast, evalO, mapO, Dn.get, putE, keepE, TV.one, TV.isAgg, Dn.part, hll, go_denK (c := l69_1) rfl, h1, q0, q1, q5, go_denK (c := l69_3) rfl, h2, k1, k7, e5]
        · simp [d69, c69, zipE, go_nil, go_last, go_past, go_pastR, go_blkN, go_blkR, go_blkE, go_skip, go_exit, go_ret, go_scope, go_seq, go_reg, go_block, go_cond, cnd_b, go_opsN, go_ops, go_opsG, grd_b, grd_u, stp_some, fin_some, up_some, cont_some, k_call, k_mv, k_pick, k_bin, k_eqB, k_eqA, k_not, k_neg, k_conv, k_alloc, k_boxA, k_boxI, k_boxB, k_boxN, k_boxBs, k_ldR, k_ldA, k_ldI, k_ldB, k_stA, k_stI, k_stB, ldC_some, stC_some, k_mkfn, k_slc, k_slcA, k_ixA, k_ixBs, k_ixSl, k_fadr, k_fld, k_ext, k_len, k_app, k_mn, k_mx, k_nilck, k_build, k_bsl1, k_bsl2, b_add, b_sub, b_mul, b_eql, b_neq, b_lss, b_leq, b_gtr, b_geq, Dn.setLast, Dn.getLast, evalO, mapO, Dn.get, putE, keepE, TV.one, TV.isAgg, Dn.part, hll, go_denK (c := l69_1) rfl, h1, q0, q1, q5, go_denK (c := l69_3) rfl, h2, k1, k7, e5]
    · refine ⟨false, fin false fun L hL => ?_, ⟨fun h => (by cases h), fun h => absurd (fun j _ hj => h.2.1 j hj) hall⟩⟩
      obtain ⟨e, h1, g0⟩ := (l69_1_all (pg := pg) hF hm hL hl (H := []) l.length 0 (by omega) (by simp) (by simp)).1 hok
      have h2 := (l69_3_all (pg := pg) hF hm hL hl hok (H := []) l.length 0 false (by omega)).2 hall
      have hll := (hL.view []).lenK
      have q0 := keep_get g0 (s := 0) (by simp) rfl
      have q1 := keep_get g0 (s := 1) (by simp) rfl
      have q5 := keep_get g0 (s := 5) (by simp) rfl
      simp only [Int.natCast_zero] at h1 h2
      simp [d69, c69, zipE, go_nil, go_last, go_past, go_pastR, go_blkN, go_blkR, go_blkE, go_skip, go_exit, go_ret, go_scope, go_seq, go_reg, go_block, go_cond, cnd_b, go_opsN, go_ops, go_opsG, grd_b, grd_u, stp_some, fin_some, up_some, cont_some, k_call, k_mv, k_pick, k_bin, k_eqB, k_eqA, k_not, k_neg, k_conv, k_alloc, k_boxA, k_boxI, k_boxB, k_boxN, k_boxBs, k_ldR, k_ldA, k_ldI, k_ldB, k_stA, k_stI, k_stB, ldC_some, stC_some, k_mkfn, k_slc, k_slcA, k_ixA, k_ixBs, k_ixSl, k_fadr, k_fld, k_ext, k_len, k_app, k_mn, k_mx, k_nilck, k_build, k_bsl1, k_bsl2, b_add, b_sub, b_mul, b_eql, b_neq, b_lss, b_leq, b_gtr, b_geq, Dn.setLast, Dn.getLast, evalO, mapO, Dn.get, putE, keepE, TV.one, TV.isAgg, Dn.part, hll, go_denK (c := l69_1) rfl, h1, q0, q1, q5, go_denK (c := l69_3) rfl, h2]
  · refine ⟨false, fin false fun L hL => ?_, ⟨fun h => (by cases h), fun h => absurd h.1 hok⟩⟩
    have h1 := (l69_1_all (pg := pg) hF hm hL hl (H := []) l.length 0 (by omega) (by simp) (by simp)).2 hok
    have hll := (hL.view []).lenK
    simp only [Int.natCast_zero] at h1
    simp [d69, c69, zipE, go_nil, go_last, go_past, go_pastR, go_blkN, go_blkR, go_blkE, go_skip, go_exit, go_ret, go_scope, go_seq, go_reg, go_block, go_cond, cnd_b, go_opsN, go_ops, go_opsG, grd_b, grd_u, stp_some, fin_some, up_some, cont_some, k_call, k_mv, k_pick, k_bin, k_eqB, k_eqA, k_not, k_neg, k_conv, k_alloc, k_boxA, k_boxI, k_boxB, k_boxN, k_boxBs, k_ldR, k_ldA, k_ldI, k_ldB, k_stA, k_stI, k_stB, ldC_some, stC_some, k_mkfn, k_slc, k_slcA, k_ixA, k_ixBs, k_ixSl, k_fadr, k_fld, k_ext, k_len, k_app, k_mn, k_mx, k_nilck, k_build, k_bsl1, k_bsl2, b_add, b_sub, b_mul, b_eql, b_neq, b_lss, b_leq, b_gtr, b_geq, Dn.setLast, Dn.getLast, evalO, mapO, Dn.get, putE, keepE, TV.one, TV.isAgg, Dn.part, hll, go_denK (c := l69_1) rfl, h1]

theorem call30 {pg : Pg} (hF : Free pg) {X : List Obs} {g : Nat} (hm : Market X g) {l : List Int} (hl : l.length ≤ 100) :
    ∃ r : Bool, (∀ H L, SV L l → callRun pg (den pg) (.pu []) [.fn 30 [] [], (elS false).lt false X, L] H = some (.tup [.b r, .i .i64 0], H)) ∧ (r = true ↔ isRingP X.length (pref X 1 1) l) := by
  obtain ⟨r, c69, hr⟩ := call69 hF hm hl
  obtain ⟨H1, h1, h2, h3, h4⟩ := body53 hF hm (P := .nilsl) (P' := .nilsl) (ps := []) (elS_RV true true X) (.inl ⟨rfl, rfl⟩) (by simp) (by simp) (H := []) (sn_nil _ _)
  simp only [List.length_nil] at h1 h2
  refine ⟨r, fun H L hL => ?_, hr⟩
  obtain ⟨L', s1, s2⟩ := hL.snap H 7
  have c := c69 H1 0 L' h2 s2
  refine PFn.call (.of2 (xs := [(elS true).lt true X, L']) (x := .ret) (e := [(4, .b r), (5, .i .i64 0)]) (H' := H1) (vs := [.b r, .i .i64 0]) (hF.S _ _ (by decide)) (d := d30) (by rw [hF.F]; rfl) rfl ?_ (.inl rfl) rfl (by simp) (by simp [sn_i, sn_b, sn_nil, sn8_i, sn8_b, sn8_nil, sn7_i, sn7_b, sn_sl, sn8_sl, slB_some, sn_tup, sn_agg, sn8_agg, mapO, elems])) (args := [(elS false).lt false X, L]) (by simp [snapArgs, snZ, s1])
  simp [d30, c30, zipE, go_nil, go_last, go_past, go_pastR, go_blkN, go_blkR, go_blkE, go_skip, go_exit, go_ret, go_scope, go_seq, go_reg, go_block, go_cond, cnd_b, go_opsN, go_ops, go_opsG, grd_b, grd_u, stp_some, fin_some, up_some, cont_some, k_call, k_mv, k_pick, k_bin, k_eqB, k_eqA, k_not, k_neg, k_conv, k_alloc, k_boxA, k_boxI, k_boxB, k_boxN, k_boxBs, k_ldR, k_ldA, k_ldI, k_ldB, k_stA, k_stI, k_stB, ldC_some, stC_some, k_mkfn, k_slc, k_slcA, k_ixA, k_ixBs, k_ixSl, k_fadr, k_fld, k_ext, k_len, k_app, k_mn, k_mx, k_nilck, k_build, k_bsl1, k_bsl2, b_add, b_sub, b_mul, b_eql, b_neq, b_lss, b_leq, b_gtr, b_geq, Dn.setLast, Dn.getLast, evalO, mapO, Dn.get, putE, keepE, TV.one, TV.isAgg, Dn.part, sh_fn, h1, c]

theorem call25 {pg : Pg} (hF : Free pg) {X : List Obs} {g : Nat} (hm : Market X g) :
    ∃ r : List Nat, (∀ H, callRun pg (den pg) (.pu []) [.fn 25 [] [], (elS false).lt false X] H = some (.tup [elI.lt false (nI r), .b (decide (r ≠ [])), .i .i64 0], H)) ∧ (r = [] ↔ ¬ ∃ i k, PairT X.length (pref X 1 1) i k) ∧ (r ≠ [] → isRingP X.length (pref X 1 1) (nI r)) ∧ r.length ≤ 5 := by
  have hn5 := hm.n5
  obtain ⟨H1, h1, h2, h3, h4⟩ := body53 hF hm (P := .nilsl) (P' := .nilsl) (ps := []) (elS_RV true true X) (.inl ⟨rfl, rfl⟩) (by simp) (by simp) (H := []) (sn_nil _ _)
  simp only [List.length_nil] at h1 h2
  have c57 := call57 hF hm h2
  obtain ⟨r, c60, r1, r2⟩ := call60 hF hm (all_small hm) (ba := 1) (bb := 1) (by omega) (by omega)
  have c60' := c60 H1 0 h2
  have hnn := nil_ne (pg := pg) (R := den pg) r
  refine ⟨r, fun H => ?_, ?_, fun hne => ?_, ?_⟩
  · have hs : Dn.snap .fin H1 8 (elI.lt false (nI r)) = some (elI.lt false (nI r)) := snap_intsF H1 6 _
    refine PFn.call (.of_go (xs := [(elS true).lt true X]) (x := .ret) (e := [(2, elI.lt false (nI r)), (3, .b (decide (r ≠ []))), (4, .i .i64 0)]) (H' := H1) (vs := [elI.lt false (nI r), .b (decide (r ≠ [])), .i .i64 0]) (hF.S _ _ (by decide)) (d := d25) (by rw [hF.F]; rfl) rfl ?_ (.inl rfl) rfl (by
      show Dn.snap .fin H1 9 (.tup [elI.lt false (nI r), .b (decide (r ≠ [])), .i .i64 0]) = _
      rw [sn_tup]
      simp only [mapO, hs, sn8_b, sn8_i, Option.bind_some, Option.map_some])) (args := [(elS false).lt false X]) (by simp [snapArgs, snZ])
    generalize ((2 ^ X.length - 1 : Nat) : Int) = al at c57 c60'
    generalize hd : decide (r ≠ []) = dd at *
    simp [d25, c25, zipE, go_nil, go_last, go_past, go_pastR, go_blkN, go_blkR, go_blkE, go_skip, go_exit, go_ret, go_scope, go_seq, go_reg, go_block, go_cond, cnd_b, go_opsN, go_ops, go_opsG, grd_b, grd_u, stp_some, fin_some, up_some, cont_some, k_call, k_mv, k_pick, k_bin, k_eqB, k_eqA, k_not, k_neg, k_conv, k_alloc, k_boxA, k_boxI, k_boxB, k_boxN, k_boxBs, k_ldR, k_ldA, k_ldI, k_ldB, k_stA, k_stI, k_stB, ldC_some, stC_some, k_mkfn, k_slc, k_slcA, k_ixA, k_ixBs, k_ixSl, k_fadr, k_fld, k_ext, k_len, k_app, k_mn, k_mx, k_nilck, k_build, k_bsl1, k_bsl2, b_add, b_sub, b_mul, b_eql, b_neq, b_lss, b_leq, b_gtr, b_geq, Dn.setLast, Dn.getLast, evalO, mapO, Dn.get, putE, keepE, TV.one, TV.isAgg, Dn.part, sh_fn, h1, hF.G, c57, c60', hnn]
  · rw [r1]
    constructor
    · rintro h ⟨i, k, hp⟩; exact h ⟨i, k, pair_iff.2 hp⟩
    · rintro h ⟨i, k, hp⟩; exact h ⟨i, k, pair_iff.1 hp⟩
  · obtain ⟨i, k, hp, hw⟩ := r2 hne
    exact hw.ring hp
  · by_cases hne : r = []
    · subst hne; simp
    · obtain ⟨i, k, hp, hw⟩ := r2 hne
      have := nodup_len X.length r hw.nodup hw.lt
      omega

end Go.Proofs.Tryd.Dn

/-
  The waste of a ring, by both.
-/

namespace Go.Proofs.Tryd.Dn
open Go.Dn

/-- what one link of a ring wastes -/
def wst (X : List Obs) (l : List Int) (i : Nat) : Int := costOf X (l.getD i 0).toNat (l.getD i 0).toNat - costOf X (l.getD i 0).toNat (l.getD ((i + 1) % l.length) 0).toNat
def wsts (X : List Obs) (l : List Int) : List Int := (List.range l.length).map (wst X l)

structure Lnk (l : List Int) (n i a b : Nat) : Prop where
  x : l[i]? = some (a : Int)
  y : l[(i + 1) % l.length]? = some (b : Int)
  pa : a < n
  pb : b < n
  ha : (l.getD i 0).toNat = a
  hb : (l.getD ((i + 1) % l.length) 0).toNat = b

theorem okRing_lnk {n : Nat} {l : List Int} (hok : okRing n l) {i : Nat} (hi : i < l.length) : ∃ a b, Lnk l n i a b := by
  have hm' : (i + 1) % l.length < l.length := Nat.mod_lt _ (by omega)
  have hx := getD_get hi
  have hy := getD_get hm'
  have rx := hok.1 _ (List.mem_of_getElem? hx)
  have ry := hok.1 _ (List.mem_of_getElem? hy)
  refine ⟨(l.getD i 0).toNat, (l.getD ((i + 1) % l.length) 0).toNat, ?_, ?_, by omega, by omega, rfl, rfl⟩
  · rw [hx]; congr 1; omega
  · rw [hy]; congr 1; omega

theorem rem_step {l : List Int} {i : Nat} (hi : i < l.length) : binI .rem (.i .i64 ((i : Int) + 1)) (.i .i64 (l.length : Int)) = some (.i .i64 (((i + 1) % l.length : Nat) : Int)) := by
  rw [b_rem, if_neg (by omega), Int.tmod_eq_emod_of_nonneg (by omega)]
  simp

theorem l31_all {pg : Pg} {X : List Obs} {g : Nat} (hm : Market X g) {L : TV} {l : List Int} (hL : SV L l) (hl : l.length ≤ 100) (hok : okRing X.length l) {base M : Nat} (hMb : M < base) {H0 : Heap} (hM0 : H0[M]? = some (.cells (mX X) true)) : ∀ (d i : Nat) (R : TV) (m : List Int) (H : Heap), i + d = l.length → RowInv base H0 H R m → m.length = i →
    ∃ e R' H', den pg l31_1 [(1, L), (6, .ref M 0), (8, R), (23, L), (24, .i .i64 (l.length : Int)), (25, .i .i64 (i : Int))] H = some ⟨.exit 0, e, H'⟩ ∧ Dn.get e 8 = some R' ∧ RowInv base H0 H' R' (m ++ ((List.range l.length).drop i).map (wst X l))
  | 0, i, R, m, H, h, hr, hml => by
    have e1 : ¬ ((i : Int) < (l.length : Int)) := by omega
    refine ⟨[(1, L), (6, .ref M 0), (8, R), (23, L), (24, .i .i64 (l.length : Int)), (25, .i .i64 (i : Int)), (26, .b false)], R, H, ?_, rfl, ?_⟩
    · rw [l31_1, den_loop]
      simp [b31_0, go_nil, go_last, go_past, go_pastR, go_blkN, go_blkR, go_blkE, go_skip, go_exit, go_ret, go_scope, go_seq, go_reg, go_block, go_cond, cnd_b, go_opsN, go_ops, go_opsG, grd_b, grd_u, stp_some, fin_some, up_some, cont_some, k_call, k_mv, k_pick, k_bin, k_eqB, k_eqA, k_not, k_neg, k_conv, k_alloc, k_boxA, k_boxI, k_boxB, k_boxN, k_boxBs, k_ldR, k_ldA, k_ldI, k_ldB, k_stA, k_stI, k_stB, ldC_some, stC_some, k_mkfn, k_slc, k_slcA, k_ixA, k_ixBs, k_ixSl, k_fadr, k_fld, k_ext, k_len, k_app, k_mn, k_mx, k_nilck, k_build, k_bsl1, k_bsl2, b_add, b_sub, b_mul, b_eql, b_neq, b_lss, b_leq, b_gtr, b_geq, Dn.setLast, Dn.getLast, evalO, mapO, Dn.get, putE, keepE, TV.one, TV.isAgg, Dn.part, e1]
    · rw [List.drop_eq_nil_of_le (by simp; omega)]; simpa using hr
  | d + 1, i, R, m, H, h, hr, hml => by
    have hn5 := hm.n5
    have hi : i < l.length := by omega
    have e1 : ((i : Int) < (l.length : Int)) := by omega
    have e2 : wrapR .i64 ((i : Int) + 1) = .i .i64 ((i : Int) + 1) := wrapR_i64 (by omega)
    have hlen := (hL.view H).lenK
    have hrem := rem_step hi
    obtain ⟨a, b, k⟩ := okRing_lnk hok hi
    have ra := k.pa
    have rb := k.pb
    have ha5 : a < 5 := by omega
    have hb5 : b < 5 := by omega
    obtain ⟨p1, hp1, hv1⟩ := ixI (pg := pg) (R := den pg) (hL.view H) k.x
    obtain ⟨p2, hp2, hv2⟩ := ixI (pg := pg) (R := den pg) (hL.view H) k.y
    have hM : H[M]? = some (.cells (mX X) true) := by rw [hr.old M hMb]; exact hM0
    have l1 := ld_mC (pg := pg) (R := den pg) hM ha5 ha5
    have l2 := ld_mC (pg := pg) (R := den pg) hM ha5 hb5
    rw [costF_in ra ra] at l1
    rw [costF_in ra rb] at l2
    have hw : wst X l i = costOf X a a - costOf X a b := by unfold wst; rw [k.ha, k.hb]
    have u1 := hm.cost ra ra
    have u2 := hm.cost ra rb
    have e3 : wrapR .i64 (costOf X a a - costOf X a b) = .i .i64 (wst X l i) := by rw [hw]; exact wrapR_i64 (by omega)
    obtain ⟨R', H', h1, h2⟩ := hr.push (wst X l i) (by omega)
    obtain ⟨e, R2, H2, h3, h4, h5⟩ := l31_all (pg := pg) hm hL hl hok hMb hM0 d (i + 1) R' _ H' (by omega) h2 (by simp; omega)
    refine ⟨e, R2, H2, Eq.trans ?_ h3, h4, ?_⟩
    · generalize (((i + 1) % l.length : Nat) : Int) = mm at hrem hp2
      rw [l31_1, den_loop]
      simp [l31_1, b31_0, go_nil, go_last, go_past, go_pastR, go_blkN, go_blkR, go_blkE, go_skip, go_exit, go_ret, go_scope, go_seq, go_reg, go_block, go_cond, cnd_b, go_opsN, go_ops, go_opsG, grd_b, grd_u, stp_some, fin_some, up_some, cont_some, k_call, k_mv, k_pick, k_bin, k_eqB, k_eqA, k_not, k_neg, k_conv, k_alloc, k_boxA, k_boxI, k_boxB, k_boxN, k_boxBs, k_ldR, k_ldA, k_ldI, k_ldB, k_stA, k_stI, k_stB, ldC_some, stC_some, k_mkfn, k_slc, k_slcA, k_ixA, k_ixBs, k_ixSl, k_fadr, k_fld, k_ext, k_len, k_app, k_mn, k_mx, k_nilck, k_build, k_bsl1, k_bsl2, b_add, b_sub, b_mul, b_eql, b_neq, b_lss, b_leq, b_gtr, b_geq, Dn.setLast, Dn.getLast, evalO, mapO, Dn.get, putE, keepE, TV.one, TV.isAgg, Dn.part, hlen, e1, e2, hrem, hp1, hv1, hp2, hv2, ha5, hb5, l1, l2, e3, h1]
    · rw [range_drop hi, List.map_cons]
      simpa [List.append_assoc] using h5

theorem wst_bound {X : List Obs} {g : Nat} (hm : Market X g) {l : List Int} (hok : okRing X.length l) : ∀ x ∈ wsts X l, -1200 ≤ x ∧ x ≤ 1200 := by
  intro x hx
  obtain ⟨i, hi, rfl⟩ := List.mem_map.1 hx
  obtain ⟨a, b, k⟩ := okRing_lnk hok (List.mem_range.1 hi)
  have u1 := hm.cost k.pa k.pa
  have u2 := hm.cost k.pa k.pb
  unfold wst
  rw [k.ha, k.hb]
  omega

theorem call31 {pg : Pg} (hF : Free pg) {X : List Obs} {g : Nat} (hm : Market X g) {l : List Int} (hl : l.length ≤ 100) {L : TV} (hL : SV L l) (hr : isRingP X.length (pref X 1 1) l) (H : Heap) :
    callRun pg (den pg) (.pu []) [.fn 31 [] [], (elS false).lt false X, L] H = some (.tup [.i .i64 (sumI (wsts X l)), .i .i64 0], H) := by
  obtain ⟨r, c69, hr'⟩ := call69 hF hm hl
  have hrt := hr'.2 hr
  subst hrt
  obtain ⟨H1, h1, h2, h3, h4⟩ := body53 hF hm (P := .nilsl) (P' := .nilsl) (ps := []) (elS_RV true true X) (.inl ⟨rfl, rfl⟩) (by simp) (by simp) (H := []) (sn_nil _ _)
  simp only [List.length_nil] at h1 h2
  obtain ⟨L', s1, s2⟩ := hL.snap H 7
  have c := c69 H1 0 L' h2 s2
  have hll := (s2.view H1).lenK
  have hlt1 := (List.getElem?_eq_some_iff.1 h2).1
  obtain ⟨e, R, H2, k1, k2, k3⟩ := l31_all (pg := pg) hm s2 hl hr.1 hlt1 h2 l.length 0 .nilsl [] H1 (by omega) (RowInv.nil H1) rfl
  rw [List.nil_append, show ((List.range l.length).drop 0).map (wst X l) = wsts X l from rfl] at k3
  have hb := wst_bound hm hr.1
  have c70 := call70 hF k3.own (by simp [wsts]; omega) fun x hx => by have := hb x hx; omega
  simp only [Int.natCast_zero] at k1
  refine PFn.call (.of2 (xs := [(elS true).lt true X, L']) (x := .ret) (e := [(4, .i .i64 (sumI (wsts X l))), (5, .i .i64 0)]) (H' := H2) (vs := [.i .i64 (sumI (wsts X l)), .i .i64 0]) (hF.S _ _ (by decide)) (d := d31) (by rw [hF.F]; rfl) rfl ?_ (.inl rfl) rfl (by simp) (by simp [sn_i, sn_b, sn_nil, sn8_i, sn8_b, sn8_nil, sn7_i, sn7_b, sn_sl, sn8_sl, slB_some, sn_tup, sn_agg, sn8_agg, mapO, elems])) (args := [(elS false).lt false X, L]) (by simp [snapArgs, snZ, s1])
  simp [d31, c31, zipE, go_nil, go_last, go_past, go_pastR, go_blkN, go_blkR, go_blkE, go_skip, go_exit, go_ret, go_scope, go_seq, go_reg, go_block, go_cond, cnd_b, go_opsN, go_ops, go_opsG, grd_b, grd_u, stp_some, fin_some, up_some, cont_some, k_call, k_mv, k_pick, k_bin, k_eqB, k_eqA, k_not, k_neg, k_conv, k_alloc, k_boxA, k_boxI, k_boxB, k_boxN, k_boxBs, k_ldR, k_ldA, k_ldI, k_ldB, k_stA, k_stI, k_stB, ldC_some, stC_some, k_mkfn, k_slc, k_slcA, k_ixA, k_ixBs, k_ixSl, k_fadr, k_fld, k_ext, k_len, k_app, k_mn, k_mx, k_nilck, k_build, k_bsl1, k_bsl2, b_add, b_sub, b_mul, b_eql, b_neq, b_lss, b_leq, b_gtr, b_geq, Dn.setLast, Dn.getLast, evalO, mapO, Dn.get, putE, keepE, TV.one, TV.isAgg, Dn.part, sh_fn, h1, c, hll, go_denK (c := l31_1) rfl, k1, k2, c70]

theorem call31bad {pg : Pg} (hF : Free pg) {X : List Obs} {g : Nat} (hm : Market X g) {l : List Int} (hl : l.length ≤ 100) {L : TV} (hL : SV L l) (hr : ¬ isRingP X.length (pref X 1 1) l) (H : Heap) :
    callRun pg (den pg) (.pu []) [.fn 31 [] [], (elS false).lt false X, L] H = some (.tup [.i .i64 0, .i .i64 1], H) := by
  obtain ⟨r, c69, hr'⟩ := call69 hF hm hl
  have hrt : r = false := by rw [Bool.eq_false_iff]; intro h; exact hr (hr'.1 h)
  subst hrt
  obtain ⟨H1, h1, h2, h3, h4⟩ := body53 hF hm (P := .nilsl) (P' := .nilsl) (ps := []) (elS_RV true true X) (.inl ⟨rfl, rfl⟩) (by simp) (by simp) (H := []) (sn_nil _ _)
  simp only [List.length_nil] at h1 h2
  obtain ⟨L', s1, s2⟩ := hL.snap H 7
  have c := c69 H1 0 L' h2 s2
  refine PFn.call (.of2 (xs := [(elS true).lt true X, L']) (x := .ret) (e := [(4, .i .i64 0), (5, .i .i64 1)]) (H' := H1) (vs := [.i .i64 0, .i .i64 1]) (hF.S _ _ (by decide)) (d := d31) (by rw [hF.F]; rfl) rfl ?_ (.inl rfl) rfl (by simp) (by simp [sn_i, sn_b, sn_nil, sn8_i, sn8_b, sn8_nil, sn7_i, sn7_b, sn_sl, sn8_sl, slB_some, sn_tup, sn_agg, sn8_agg, mapO, elems])) (args := [(elS false).lt false X, L]) (by simp [snapArgs, snZ, s1])
  simp [d31, c31, zipE, go_nil, go_last, go_past, go_pastR, go_blkN, go_blkR, go_blkE, go_skip, go_exit, go_ret, go_scope, go_seq, go_reg, go_block, go_cond, cnd_b, go_opsN, go_ops, go_opsG, grd_b, grd_u, stp_some, fin_some, up_some, cont_some, k_call, k_mv, k_pick, k_bin, k_eqB, k_eqA, k_not, k_neg, k_conv, k_alloc, k_boxA, k_boxI, k_boxB, k_boxN, k_boxBs, k_ldR, k_ldA, k_ldI, k_ldB, k_stA, k_stI, k_stB, ldC_some, stC_some, k_mkfn, k_slc, k_slcA, k_ixA, k_ixBs, k_ixSl, k_fadr, k_fld, k_ext, k_len, k_app, k_mn, k_mx, k_nilck, k_build, k_bsl1, k_bsl2, b_add, b_sub, b_mul, b_eql, b_neq, b_lss, b_leq, b_gtr, b_geq, Dn.setLast, Dn.getLast, evalO, mapO, Dn.get, putE, keepE, TV.one, TV.isAgg, Dn.part, sh_fn, h1, c]

/-- the reference's waste -/
theorem l32_all {pg : Pg} {X : List Obs} {g : Nat} (hm : Market X g) {L C : TV} {c : Bool} (hC : ∀ H, (elR c).View H C (costs X)) {l : List Int} (hL : SV L l) (hl : l.length ≤ 100) (hok : okRing X.length l) {H : Heap} : ∀ (d i : Nat) (s : Int), i + d = l.length → -(1200 * (i : Int)) ≤ s ∧ s ≤ 1200 * (i : Int) →
    ∃ e, den pg l32_1 [(1, L), (5, C), (6, .i .i64 s), (7, .i .i64 (i : Int))] H = some ⟨.exit 0, e, H⟩ ∧ Dn.get e 6 = some (.i .i64 (s + sumI (((List.range l.length).drop i).map (wst X l))))
  | 0, i, s, h, hs => by
    have e1 : ¬ ((i : Int) < (l.length : Int)) := by omega
    have hlen := (hL.view H).lenK
    refine ⟨[(1, L), (5, C), (6, .i .i64 s), (7, .i .i64 (i : Int)), (15, .b false)], ?_, ?_⟩
    · rw [l32_1, den_loop]
      simp [b32_0, go_nil, go_last, go_past, go_pastR, go_blkN, go_blkR, go_blkE, go_skip, go_exit, go_ret, go_scope, go_seq, go_reg, go_block, go_cond, cnd_b, go_opsN, go_ops, go_opsG, grd_b, grd_u, stp_some, fin_some, up_some, cont_some, k_call, k_mv, k_pick, k_bin, k_eqB, k_eqA, k_not, k_neg, k_conv, k_alloc, k_boxA, k_boxI, k_boxB, k_boxN, k_boxBs, k_ldR, k_ldA, k_ldI, k_ldB, k_stA, k_stI, k_stB, ldC_some, stC_some, k_mkfn, k_slc, k_slcA, k_ixA, k_ixBs, k_ixSl, k_fadr, k_fld, k_ext, k_len, k_app, k_mn, k_mx, k_nilck, k_build, k_bsl1, k_bsl2, b_add, b_sub, b_mul, b_eql, b_neq, b_lss, b_leq, b_gtr, b_geq, Dn.setLast, Dn.getLast, evalO, mapO, Dn.get, putE, keepE, TV.one, TV.isAgg, Dn.part, hlen, e1]
    · rw [List.drop_eq_nil_of_le (by simp; omega)]; simp [Dn.get, sumI]
  | d + 1, i, s, h, hs => by
    have hi : i < l.length := by omega
    have e1 : ((i : Int) < (l.length : Int)) := by omega
    have e2 : wrapR .i64 ((i : Int) + 1) = .i .i64 ((i : Int) + 1) := wrapR_i64 (by omega)
    have hlen := (hL.view H).lenK
    have hrem := rem_step hi
    obtain ⟨a, b, k⟩ := okRing_lnk hok hi
    have ra := k.pa
    have rb := k.pb
    obtain ⟨p1, hp1, hv1⟩ := ixI (pg := pg) (R := den pg) (hL.view H) k.x
    obtain ⟨p2, hp2, hv2⟩ := ixI (pg := pg) (R := den pg) (hL.view H) k.y
    obtain ⟨p3, hp3, hv3⟩ := ixR (pg := pg) (R := den pg) (hC H) (costs_get ra)
    obtain ⟨p4, hp4, hv4⟩ := ixI (pg := pg) (R := den pg) (El.lt_view c (costRow X a) H : elI.View H _ _) (costRow_get ra)
    obtain ⟨p5, hp5, hv5⟩ := ixI (pg := pg) (R := den pg) (El.lt_view c (costRow X a) H : elI.View H _ _) (costRow_get rb)
    have hw : wst X l i = costOf X a a - costOf X a b := by unfold wst; rw [k.ha, k.hb]
    have u1 := hm.cost ra ra
    have u2 := hm.cost ra rb
    have e3 : wrapR .i64 (s + costOf X a a) = .i .i64 (s + costOf X a a) := wrapR_i64 (by omega)
    have e4 : wrapR .i64 (s + costOf X a a - costOf X a b) = .i .i64 (s + wst X l i) := by rw [show s + costOf X a a - costOf X a b = s + wst X l i by omega]; exact wrapR_i64 (by omega)
    obtain ⟨e, h3, h4⟩ := l32_all (pg := pg) hm hC hL hl hok (H := H) d (i + 1) (s + wst X l i) (by omega) (by omega)
    refine ⟨e, Eq.trans ?_ h3, ?_⟩
    · generalize (((i + 1) % l.length : Nat) : Int) = mm at hrem hp2
      rw [l32_1, den_loop]
      simp [l32_1, b32_0, go_nil, go_last, go_past, go_pastR, go_blkN, go_blkR, go_blkE, go_skip, go_exit, go_ret, go_scope, go_seq, go_reg, go_block, go_cond, cnd_b, go_opsN, go_ops, go_opsG, grd_b, grd_u, stp_some, fin_some, up_some, cont_some, k_call, k_mv, k_pick, k_bin, k_eqB, k_eqA, k_not, k_neg, k_conv, k_alloc, k_boxA, k_boxI, k_boxB, k_boxN, k_boxBs, k_ldR, k_ldA, k_ldI, k_ldB, k_stA, k_stI, k_stB, ldC_some, stC_some, k_mkfn, k_slc, k_slcA, k_ixA, k_ixBs, k_ixSl, k_fadr, k_fld, k_ext, k_len, k_app, k_mn, k_mx, k_nilck, k_build, k_bsl1, k_bsl2, b_add, b_sub, b_mul, b_eql, b_neq, b_lss, b_leq, b_gtr, b_geq, Dn.setLast, Dn.getLast, evalO, mapO, Dn.get, putE, keepE, TV.one, TV.isAgg, Dn.part, hlen, e1, e2, hrem, hp1, hv1, hp2, hv2, hp3, hv3, hp4, hv4, hp5, hv5, e3, e4]
    · rw [range_drop hi, List.map_cons, h4, sumI, Int.add_assoc]

theorem call32 {pg : Pg} (hF : Free pg) {X : List Obs} {g : Nat} (hm : Market X g) {l : List Int} (hl : l.length ≤ 100) {L : TV} (hL : SV L l) (hok : okRing X.length l) (H : Heap) :
    callRun pg (den pg) (.pu []) [.fn 32 [] [], (elS false).lt false X, L] H = some (.i .i64 (sumI (wsts X l)), H) := by
  obtain ⟨L', s1, s2⟩ := hL.snap H 7
  have c37 := call37 hF hm (elS_RV true true X) []
  obtain ⟨e, k1, k2⟩ := l32_all (pg := pg) hm (C := (elR false).lt false (costs X)) (fun H => El.lt_view _ _ _) s2 hl hok (H := []) l.length 0 0 (by omega) (by simp)
  rw [Int.zero_add, show ((List.range l.length).drop 0).map (wst X l) = wsts X l from rfl] at k2
  simp only [Int.natCast_zero] at k1
  refine PFn.call (.of1 (xs := [(elS true).lt true X, L']) (x := .ret) (e := [(4, .i .i64 (sumI (wsts X l)))]) (H' := []) (hF.S _ _ (by decide)) (d := d32) (by rw [hF.F]; rfl) rfl ?_ (.inl rfl) rfl (by simp [sn_i, sn_b, sn_nil, sn8_i, sn8_b, sn8_nil, sn7_i, sn7_b, sn_sl, sn8_sl, slB_some, sn_tup, sn_agg, sn8_agg, mapO, elems])) (args := [(elS false).lt false X, L]) (by simp [snapArgs, snZ, s1])
  simp [d32, c32, zipE, go_nil, go_last, go_past, go_pastR, go_blkN, go_blkR, go_blkE, go_skip, go_exit, go_ret, go_scope, go_seq, go_reg, go_block, go_cond, cnd_b, go_opsN, go_ops, go_opsG, grd_b, grd_u, stp_some, fin_some, up_some, cont_some, k_call, k_mv, k_pick, k_bin, k_eqB, k_eqA, k_not, k_neg, k_conv, k_alloc, k_boxA, k_boxI, k_boxB, k_boxN, k_boxBs, k_ldR, k_ldA, k_ldI, k_ldB, k_stA, k_stI, k_stB, ldC_some, stC_some, k_mkfn, k_slc, k_slcA, k_ixA, k_ixBs, k_ixSl, k_fadr, k_fld, k_ext, k_len, k_app, k_mn, k_mx, k_nilck, k_build, k_bsl1, k_bsl2, b_add, b_sub, b_mul, b_eql, b_neq, b_lss, b_leq, b_gtr, b_geq, Dn.setLast, Dn.getLast, evalO, mapO, Dn.get, putE, keepE, TV.one, TV.isAgg, Dn.part, c37, go_denK (c := l32_1) rfl, k1, k2]

end Go.Proofs.Tryd.Dn

/-
  PriceBetter: the whole run answers true.
-/

namespace Go.Proofs.Tryd.Dn
open Go.Dn

end Go.Proofs.Tryd.Dn

