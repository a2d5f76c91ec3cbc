/-
  Knight: ways, in plain terms and in the program; the reference's looks at them.
-/
import Derived.Test.YtdjbpmgbaggfbaaDoorKf6
import Derived.Test.YtdjbpmgbaggfbaaDoorKf4
import Derived.Test.YtdjbpmgbaggfbaaDoorKf3
import Derived.Test.YtdjbpmgbaggfbaaDoorDd
import Derived.Test.YtdjbpmgbaggfbaaDoorKe
set_option linter.unusedSimpArgs false
set_option linter.unusedVariables false

namespace Go.Proofs.Tryd.Dn
open Go.Dn

/-! the reference's least numbers of steps -/
/-! two lists compared -/
theorem l32_all {pg : Pg} {A B : TV} {la lb : List Int} (hA : SV A la) (hB : SV B lb) (hl : la.length = lb.length) (h64 : la.length ≤ 9223372036854775807) {H : Heap} : ∀ (d i : Nat), i + d = la.length →
    (la.drop i = lb.drop i ∧ ∃ e, den pg l32_1 [(0, A), (1, B), (5, .i .i64 (i : Int))] H = some ⟨.exit 0, e, H⟩) ∨ (la.drop i ≠ lb.drop i ∧ den pg l32_1 [(0, A), (1, B), (5, .i .i64 (i : Int))] H = some ⟨.ret, [(4, .b false)], H⟩)
  | 0, i, hd => by
    have hlen := fun K => (hA.view K).lenK K
    refine .inl ⟨by rw [List.drop_eq_nil_of_le (by omega), List.drop_eq_nil_of_le (by omega)], _, by
      rw [l32_1, den_loop]
      simp (disch := omega) [b32_0, go_nil, go_last, go_past, go_pastR, go_blkN, go_blkR, go_blkE, go_skip, go_exit, go_ret, go_scope, go_seq, go_reg, go_regd, go_opdN, go_opd, go_opdG, grdd_b, grdd_u, stpd_some, find_some, go_block, go_cond, cnd_b, go_opsN, go_ops, go_opsG, grd_b, grd_u, stp_some, fin_some, up_some, cont_some, k_call, k_mv, k_pick, k_bin, k_eqB, k_eqA, k_not, k_neg, k_conv, k_alloc, k_boxA, k_boxI, k_boxB, k_boxN, k_boxBs, k_ldR, k_ldA, k_ldI, k_ldB, k_stA, k_stI, k_stB, ldC_some, stC_some, k_mkfn, k_slc, k_slcA, k_ixA, k_ixBs, k_ixSl, k_fadr, k_fld, k_ext, k_len, k_app, k_mn, k_mx, k_nilck, k_build, k_bsl1, k_bsl2, b_add, b_sub, b_mul, b_eql, b_neq, b_lss, b_leq, b_gtr, b_geq, Dn.setLast, Dn.getLast, evalO, mapO, Dn.get, putE, keepE_nil, keepE_cons, kp_some, kp_none, TV.one, TV.isAgg, Dn.part, k_boxR, negb, at0, at1, at2, at3, at4, dT, dF, wrapR_i64, Option.bind_some, Option.map_some, hlen]
      rfl⟩
  | d + 1, i, hd => by
    have hlen := fun K => (hA.view K).lenK K
    have hx : la[i]? = some la[i] := List.getElem?_eq_getElem (by omega)
    have hy : lb[i]? = some lb[i] := List.getElem?_eq_getElem (by omega)
    have da : la.drop i = la[i] :: la.drop (i + 1) := List.drop_eq_getElem_cons (by omega)
    have db : lb.drop i = lb[i] :: lb.drop (i + 1) := List.drop_eq_getElem_cons (by omega)
    rw [da, db]
    generalize la[i] = x at *
    generalize lb[i] = y at *
    obtain ⟨p, p1, p2⟩ := ixI (pg := pg) (R := den pg) (hA.view H) hx
    obtain ⟨q, q1, q2⟩ := ixI (pg := pg) (R := den pg) (hB.view H) hy
    by_cases hxy : x = y
    · subst hxy
      rcases l32_all (pg := pg) (H := H) hA hB hl h64 d (i + 1) (by omega) with ⟨h1, e, h2⟩ | ⟨h1, h2⟩
      · refine .inl ⟨by rw [h1], e, Eq.trans ?_ h2⟩
        rw [l32_1, den_loop]
        simp (disch := omega) [l32_1, b32_0, go_nil, go_last, go_past, go_pastR, go_blkN, go_blkR, go_blkE, go_skip, go_exit, go_ret, go_scope, go_seq, go_reg, go_regd, go_opdN, go_opd, go_opdG, grdd_b, grdd_u, stpd_some, find_some, go_block, go_cond, cnd_b, go_opsN, go_ops, go_opsG, grd_b, grd_u, stp_some, fin_some, up_some, cont_some, k_call, k_mv, k_pick, k_bin, k_eqB, k_eqA, k_not, k_neg, k_conv, k_alloc, k_boxA, k_boxI, k_boxB, k_boxN, k_boxBs, k_ldR, k_ldA, k_ldI, k_ldB, k_stA, k_stI, k_stB, ldC_some, stC_some, k_mkfn, k_slc, k_slcA, k_ixA, k_ixBs, k_ixSl, k_fadr, k_fld, k_ext, k_len, k_app, k_mn, k_mx, k_nilck, k_build, k_bsl1, k_bsl2, b_add, b_sub, b_mul, b_eql, b_neq, b_lss, b_leq, b_gtr, b_geq, Dn.setLast, Dn.getLast, evalO, mapO, Dn.get, putE, keepE_nil, keepE_cons, kp_some, kp_none, TV.one, TV.isAgg, Dn.part, k_boxR, negb, at0, at1, at2, at3, at4, dT, dF, wrapR_i64, Option.bind_some, Option.map_some, hlen, p1, p2, q1, q2]
      · refine .inr ⟨by simpa using h1, Eq.trans ?_ h2⟩
        rw [l32_1, den_loop]
        simp (disch := omega) [l32_1, b32_0, go_nil, go_last, go_past, go_pastR, go_blkN, go_blkR, go_blkE, go_skip, go_exit, go_ret, go_scope, go_seq, go_reg, go_regd, go_opdN, go_opd, go_opdG, grdd_b, grdd_u, stpd_some, find_some, go_block, go_cond, cnd_b, go_opsN, go_ops, go_opsG, grd_b, grd_u, stp_some, fin_some, up_some, cont_some, k_call, k_mv, k_pick, k_bin, k_eqB, k_eqA, k_not, k_neg, k_conv, k_alloc, k_boxA, k_boxI, k_boxB, k_boxN, k_boxBs, k_ldR, k_ldA, k_ldI, k_ldB, k_stA, k_stI, k_stB, ldC_some, stC_some, k_mkfn, k_slc, k_slcA, k_ixA, k_ixBs, k_ixSl, k_fadr, k_fld, k_ext, k_len, k_app, k_mn, k_mx, k_nilck, k_build, k_bsl1, k_bsl2, b_add, b_sub, b_mul, b_eql, b_neq, b_lss, b_leq, b_gtr, b_geq, Dn.setLast, Dn.getLast, evalO, mapO, Dn.get, putE, keepE_nil, keepE_cons, kp_some, kp_none, TV.one, TV.isAgg, Dn.part, k_boxR, negb, at0, at1, at2, at3, at4, dT, dF, wrapR_i64, Option.bind_some, Option.map_some, hlen, p1, p2, q1, q2]
    · refine .inr ⟨by simp [hxy], ?_⟩
      rw [l32_1, den_loop]
      simp (disch := omega) [b32_0, go_nil, go_last, go_past, go_pastR, go_blkN, go_blkR, go_blkE, go_skip, go_exit, go_ret, go_scope, go_seq, go_reg, go_regd, go_opdN, go_opd, go_opdG, grdd_b, grdd_u, stpd_some, find_some, go_block, go_cond, cnd_b, go_opsN, go_ops, go_opsG, grd_b, grd_u, stp_some, fin_some, up_some, cont_some, k_call, k_mv, k_pick, k_bin, k_eqB, k_eqA, k_not, k_neg, k_conv, k_alloc, k_boxA, k_boxI, k_boxB, k_boxN, k_boxBs, k_ldR, k_ldA, k_ldI, k_ldB, k_stA, k_stI, k_stB, ldC_some, stC_some, k_mkfn, k_slc, k_slcA, k_ixA, k_ixBs, k_ixSl, k_fadr, k_fld, k_ext, k_len, k_app, k_mn, k_mx, k_nilck, k_build, k_bsl1, k_bsl2, b_add, b_sub, b_mul, b_eql, b_neq, b_lss, b_leq, b_gtr, b_geq, Dn.setLast, Dn.getLast, evalO, mapO, Dn.get, putE, keepE_nil, keepE_cons, kp_some, kp_none, TV.one, TV.isAgg, Dn.part, k_boxR, negb, at0, at1, at2, at3, at4, dT, dF, wrapR_i64, Option.bind_some, Option.map_some, hlen, p1, p2, q1, q2, bneT hxy]

theorem fn32 {pg : Pg} (hF : Free pg) {A B : TV} {la lb : List Int} (hA : SV A la) (hB : SV B lb) (h1 : la.length ≤ 9223372036854775807) (h2 : lb.length ≤ 9223372036854775807) : PFn pg 32 [A, B] (.b (decide (la = lb))) := by
  have hla := fun K => (hA.view K).lenK K
  have hlb := fun K => (hB.view K).lenK K
  refine .inr ⟨hF.S _ _ (by decide), .b (decide (la = lb)), [], body_of (x := .ret) (e := [(4, .b (decide (la = lb)))]) (d := d32) (by rw [hF.F]; rfl) rfl ?_ (.inl rfl) rfl, sn_b _ _ _⟩
  by_cases hl : la.length = lb.length
  · rcases l32_all (pg := pg) (H := []) hA hB hl h1 la.length 0 (by omega) with ⟨k1, e, k2⟩ | ⟨k1, k2⟩
    · simp only [Int.natCast_zero, List.drop_zero] at k1 k2
      rw [dT k1]
      simp (disch := omega) [d32, c32, zipE, go_nil, go_last, go_past, go_pastR, go_blkN, go_blkR, go_blkE, go_skip, go_exit, go_ret, go_scope, go_seq, go_reg, go_regd, go_opdN, go_opd, go_opdG, grdd_b, grdd_u, stpd_some, find_some, go_block, go_cond, cnd_b, go_opsN, go_ops, go_opsG, grd_b, grd_u, stp_some, fin_some, up_some, cont_some, k_call, k_mv, k_pick, k_bin, k_eqB, k_eqA, k_not, k_neg, k_conv, k_alloc, k_boxA, k_boxI, k_boxB, k_boxN, k_boxBs, k_ldR, k_ldA, k_ldI, k_ldB, k_stA, k_stI, k_stB, ldC_some, stC_some, k_mkfn, k_slc, k_slcA, k_ixA, k_ixBs, k_ixSl, k_fadr, k_fld, k_ext, k_len, k_app, k_mn, k_mx, k_nilck, k_build, k_bsl1, k_bsl2, b_add, b_sub, b_mul, b_eql, b_neq, b_lss, b_leq, b_gtr, b_geq, Dn.setLast, Dn.getLast, evalO, mapO, Dn.get, putE, keepE_nil, keepE_cons, kp_some, kp_none, TV.one, TV.isAgg, Dn.part, k_boxR, negb, at0, at1, at2, at3, at4, dT, dF, wrapR_i64, Option.bind_some, Option.map_some, hla, hlb, hl, go_denK (c := l32_1) rfl, k2]
    · simp only [Int.natCast_zero, List.drop_zero] at k1 k2
      rw [dF k1]
      simp (disch := omega) [d32, c32, zipE, go_nil, go_last, go_past, go_pastR, go_blkN, go_blkR, go_blkE, go_skip, go_exit, go_ret, go_scope, go_seq, go_reg, go_regd, go_opdN, go_opd, go_opdG, grdd_b, grdd_u, stpd_some, find_some, go_block, go_cond, cnd_b, go_opsN, go_ops, go_opsG, grd_b, grd_u, stp_some, fin_some, up_some, cont_some, k_call, k_mv, k_pick, k_bin, k_eqB, k_eqA, k_not, k_neg, k_conv, k_alloc, k_boxA, k_boxI, k_boxB, k_boxN, k_boxBs, k_ldR, k_ldA, k_ldI, k_ldB, k_stA, k_stI, k_stB, ldC_some, stC_some, k_mkfn, k_slc, k_slcA, k_ixA, k_ixBs, k_ixSl, k_fadr, k_fld, k_ext, k_len, k_app, k_mn, k_mx, k_nilck, k_build, k_bsl1, k_bsl2, b_add, b_sub, b_mul, b_eql, b_neq, b_lss, b_leq, b_gtr, b_geq, Dn.setLast, Dn.getLast, evalO, mapO, Dn.get, putE, keepE_nil, keepE_cons, kp_some, kp_none, TV.one, TV.isAgg, Dn.part, k_boxR, negb, at0, at1, at2, at3, at4, dT, dF, wrapR_i64, Option.bind_some, Option.map_some, hla, hlb, hl, go_denK (c := l32_1) rfl, k2]
  · have : ¬ la = lb := by rintro rfl; exact hl rfl
    rw [dF this]
    have hne : (((la.length : Int) != (lb.length : Int)) = true) := bneT (by omega)
    simp (disch := omega) [d32, c32, zipE, go_nil, go_last, go_past, go_pastR, go_blkN, go_blkR, go_blkE, go_skip, go_exit, go_ret, go_scope, go_seq, go_reg, go_regd, go_opdN, go_opd, go_opdG, grdd_b, grdd_u, stpd_some, find_some, go_block, go_cond, cnd_b, go_opsN, go_ops, go_opsG, grd_b, grd_u, stp_some, fin_some, up_some, cont_some, k_call, k_mv, k_pick, k_bin, k_eqB, k_eqA, k_not, k_neg, k_conv, k_alloc, k_boxA, k_boxI, k_boxB, k_boxN, k_boxBs, k_ldR, k_ldA, k_ldI, k_ldB, k_stA, k_stI, k_stB, ldC_some, stC_some, k_mkfn, k_slc, k_slcA, k_ixA, k_ixBs, k_ixSl, k_fadr, k_fld, k_ext, k_len, k_app, k_mn, k_mx, k_nilck, k_build, k_bsl1, k_bsl2, b_add, b_sub, b_mul, b_eql, b_neq, b_lss, b_leq, b_gtr, b_geq, Dn.setLast, Dn.getLast, evalO, mapO, Dn.get, putE, keepE_nil, keepE_cons, kp_some, kp_none, TV.one, TV.isAgg, Dn.part, k_boxR, negb, at0, at1, at2, at3, at4, dT, dF, wrapR_i64, Option.bind_some, Option.map_some, hla, hlb, hne]

/-! whether a list is a way -/
def wayAt (r c : Nat) (l : List Int) (i : Nat) : Bool := decide (0 ≤ l.getD i 0) && decide (l.getD i 0 < ((r * c : Nat) : Int)) && (i == 0 || near c (l.getD (i - 1) 0).toNat (l.getD i 0).toNat)

theorem l34_all {pg : Pg} (hF : Free pg) {r c : Nat} (h : Brd r c) {A : TV} {l : List Int} (hA : SV A l) (h64 : l.length ≤ 9223372036854775807) {H : Heap} : ∀ (d i : Nat), i + d = l.length → (∀ j, j < i → wayAt r c l j = true) →
    ((∀ j, j < l.length → wayAt r c l j = true) ∧ ∃ e, den pg l34_1 [(0, .i .i64 (r : Int)), (1, .i .i64 (c : Int)), (2, A), (7, .i .i64 (i : Int))] H = some ⟨.exit 0, e, H⟩ ∧ Dn.get e 2 = some A) ∨
    ((∃ j, j < l.length ∧ wayAt r c l j = false) ∧ den pg l34_1 [(0, .i .i64 (r : Int)), (1, .i .i64 (c : Int)), (2, A), (7, .i .i64 (i : Int))] H = some ⟨.ret, [(6, .b false)], H⟩)
  | 0, i, hd, hp => by
    have hlen := fun K => (hA.view K).lenK K
    refine .inl ⟨fun j hj => hp j (by omega), _, by
      rw [l34_1, den_loop]
      simp (disch := omega) [b34_0, go_nil, go_last, go_past, go_pastR, go_blkN, go_blkR, go_blkE, go_skip, go_exit, go_ret, go_scope, go_seq, go_reg, go_regd, go_opdN, go_opd, go_opdG, grdd_b, grdd_u, stpd_some, find_some, go_block, go_cond, cnd_b, go_opsN, go_ops, go_opsG, grd_b, grd_u, stp_some, fin_some, up_some, cont_some, k_call, k_mv, k_pick, k_bin, k_eqB, k_eqA, k_not, k_neg, k_conv, k_alloc, k_boxA, k_boxI, k_boxB, k_boxN, k_boxBs, k_ldR, k_ldA, k_ldI, k_ldB, k_stA, k_stI, k_stB, ldC_some, stC_some, k_mkfn, k_slc, k_slcA, k_ixA, k_ixBs, k_ixSl, k_fadr, k_fld, k_ext, k_len, k_app, k_mn, k_mx, k_nilck, k_build, k_bsl1, k_bsl2, b_add, b_sub, b_mul, b_eql, b_neq, b_lss, b_leq, b_gtr, b_geq, Dn.setLast, Dn.getLast, evalO, mapO, Dn.get, putE, keepE_nil, keepE_cons, kp_some, kp_none, TV.one, TV.isAgg, Dn.part, k_boxR, negb, at0, at1, at2, at3, at4, dT, dF, wrapR_i64, Option.bind_some, Option.map_some, hlen]
      rfl, rfl⟩
  | d + 1, i, hd, hp => by
    have hn := h.n36
    obtain ⟨hcast, wn⟩ := rc_facts h
    have hlen := fun K => (hA.view K).lenK K
    obtain ⟨p, p1, p2⟩ := ixI (pg := pg) (R := den pg) (hA.view H) (getD_some (l := l) (x := i) (by omega))
    have hw : wayAt r c l i = (decide (0 ≤ l.getD i 0) && decide (l.getD i 0 < ((r * c : Nat) : Int)) && (i == 0 || near c (l.getD (i - 1) 0).toNat (l.getD i 0).toNat)) := rfl
    have hprev : i = 0 ∨ (0 ≤ l.getD (i - 1) 0 ∧ l.getD (i - 1) 0 < ((r * c : Nat) : Int)) := by
      by_cases h0 : i = 0
      · exact .inl h0
      · have := hp (i - 1) (by omega)
        unfold wayAt at this
        simp only [Bool.and_eq_true, decide_eq_true_eq] at this
        exact .inr this.1
    generalize hx : l.getD i 0 = x at *
    by_cases q1 : 0 ≤ x
    · by_cases q2 : x < ((r * c : Nat) : Int)
      · obtain ⟨xn, rfl⟩ : ∃ n : Nat, x = (n : Int) := ⟨x.toNat, by omega⟩
        by_cases h0 : i = 0
        · subst h0
          have hok : wayAt r c l 0 = true := by rw [hw]; simp; omega
          have ih := l34_all (pg := pg) (H := H) hF h hA h64 d 1 (by omega) fun j hj => by
            have : j = 0 := by omega
            subst this; exact hok
          refine ih.imp (fun ⟨a1, e, a2, a3⟩ => ⟨a1, e, Eq.trans ?_ a2, a3⟩) (fun ⟨a1, a2⟩ => ⟨a1, Eq.trans ?_ a2⟩)
          · simp only [Int.natCast_zero] at p1
            rw [l34_1, den_loop]
            simp (disch := omega) [l34_1, b34_0, go_nil, go_last, go_past, go_pastR, go_blkN, go_blkR, go_blkE, go_skip, go_exit, go_ret, go_scope, go_seq, go_reg, go_regd, go_opdN, go_opd, go_opdG, grdd_b, grdd_u, stpd_some, find_some, go_block, go_cond, cnd_b, go_opsN, go_ops, go_opsG, grd_b, grd_u, stp_some, fin_some, up_some, cont_some, k_call, k_mv, k_pick, k_bin, k_eqB, k_eqA, k_not, k_neg, k_conv, k_alloc, k_boxA, k_boxI, k_boxB, k_boxN, k_boxBs, k_ldR, k_ldA, k_ldI, k_ldB, k_stA, k_stI, k_stB, ldC_some, stC_some, k_mkfn, k_slc, k_slcA, k_ixA, k_ixBs, k_ixSl, k_fadr, k_fld, k_ext, k_len, k_app, k_mn, k_mx, k_nilck, k_build, k_bsl1, k_bsl2, b_add, b_sub, b_mul, b_eql, b_neq, b_lss, b_leq, b_gtr, b_geq, Dn.setLast, Dn.getLast, evalO, mapO, Dn.get, putE, keepE_nil, keepE_cons, kp_some, kp_none, TV.one, TV.isAgg, Dn.part, k_boxR, negb, at0, at1, at2, at3, at4, dT, dF, wrapR_i64, Option.bind_some, Option.map_some, hlen, p1, p2, wn, show ((1 : Nat) : Int) = 1 from rfl]
          · simp only [Int.natCast_zero] at p1
            rw [l34_1, den_loop]
            simp (disch := omega) [l34_1, b34_0, go_nil, go_last, go_past, go_pastR, go_blkN, go_blkR, go_blkE, go_skip, go_exit, go_ret, go_scope, go_seq, go_reg, go_regd, go_opdN, go_opd, go_opdG, grdd_b, grdd_u, stpd_some, find_some, go_block, go_cond, cnd_b, go_opsN, go_ops, go_opsG, grd_b, grd_u, stp_some, fin_some, up_some, cont_some, k_call, k_mv, k_pick, k_bin, k_eqB, k_eqA, k_not, k_neg, k_conv, k_alloc, k_boxA, k_boxI, k_boxB, k_boxN, k_boxBs, k_ldR, k_ldA, k_ldI, k_ldB, k_stA, k_stI, k_stB, ldC_some, stC_some, k_mkfn, k_slc, k_slcA, k_ixA, k_ixBs, k_ixSl, k_fadr, k_fld, k_ext, k_len, k_app, k_mn, k_mx, k_nilck, k_build, k_bsl1, k_bsl2, b_add, b_sub, b_mul, b_eql, b_neq, b_lss, b_leq, b_gtr, b_geq, Dn.setLast, Dn.getLast, evalO, mapO, Dn.get, putE, keepE_nil, keepE_cons, kp_some, kp_none, TV.one, TV.isAgg, Dn.part, k_boxR, negb, at0, at1, at2, at3, at4, dT, dF, wrapR_i64, Option.bind_some, Option.map_some, hlen, p1, p2, wn, show ((1 : Nat) : Int) = 1 from rfl]
        · obtain ⟨k, rfl⟩ : ∃ k, i = k + 1 := ⟨i - 1, by omega⟩
          obtain ⟨q, u1, u2⟩ := ixI (pg := pg) (R := den pg) (hA.view H) (getD_some (l := l) (x := k) (by omega))
          rcases hprev with hprev | hprev
          · omega
          · have hb0 : ((k + 1 == 0) : Bool) = false := rfl
            rw [Nat.add_sub_cancel] at hprev hw
            generalize l.getD k 0 = y at *
            obtain ⟨yn, rfl⟩ : ∃ n : Nat, y = (n : Int) := ⟨y.toNat, by omega⟩
            have c62 := call62 (pg := pg) hF h.c1 h.c8 (a := yn) (b := xn) (by omega) (by omega) H
            simp only [Int.toNat_natCast] at hw
            have wk : wrapR .i64 (((k + 1 : Nat) : Int) - 1) = .i .i64 (k : Int) := by rw [show ((k + 1 : Nat) : Int) - 1 = (k : Int) by omega]; exact wrapR_i64 (by omega)
            have hgt : decide ((0 : Int) < ((k + 1 : Nat) : Int)) = true := dT (by omega)
            have hkl : decide (((k + 1 : Nat) : Int) < (l.length : Int)) = true := dT (by omega)
            have wk2 : wrapR .i64 (((k + 1 : Nat) : Int) + 1) = .i .i64 ((k + 1 + 1 : Nat) : Int) := by rw [show ((k + 1 : Nat) : Int) + 1 = ((k + 1 + 1 : Nat) : Int) by omega]; exact wrapR_i64 (by omega)
            cases hnr : near c yn xn with
            | true =>
              rw [hnr] at c62 hw
              have hok : wayAt r c l (k + 1) = true := by rw [hw]; simp; omega
              have ih := l34_all (pg := pg) (H := H) hF h hA h64 d (k + 1 + 1) (by omega) fun j hj => by
                by_cases hjk : j = k + 1
                · rw [hjk]; exact hok
                · exact hp j (by omega)
              generalize ((k + 1 : Nat) : Int) = K1 at *
              refine ih.imp (fun ⟨a1, e, a2, a3⟩ => ⟨a1, e, Eq.trans ?_ a2, a3⟩) (fun ⟨a1, a2⟩ => ⟨a1, Eq.trans ?_ a2⟩)
              · rw [l34_1, den_loop]
                simp (disch := omega) [l34_1, b34_0, go_nil, go_last, go_past, go_pastR, go_blkN, go_blkR, go_blkE, go_skip, go_exit, go_ret, go_scope, go_seq, go_reg, go_regd, go_opdN, go_opd, go_opdG, grdd_b, grdd_u, stpd_some, find_some, go_block, go_cond, cnd_b, go_opsN, go_ops, go_opsG, grd_b, grd_u, stp_some, fin_some, up_some, cont_some, k_call, k_mv, k_pick, k_bin, k_eqB, k_eqA, k_not, k_neg, k_conv, k_alloc, k_boxA, k_boxI, k_boxB, k_boxN, k_boxBs, k_ldR, k_ldA, k_ldI, k_ldB, k_stA, k_stI, k_stB, ldC_some, stC_some, k_mkfn, k_slc, k_slcA, k_ixA, k_ixBs, k_ixSl, k_fadr, k_fld, k_ext, k_len, k_app, k_mn, k_mx, k_nilck, k_build, k_bsl1, k_bsl2, b_add, b_sub, b_mul, b_eql, b_neq, b_lss, b_leq, b_gtr, b_geq, Dn.setLast, Dn.getLast, evalO, mapO, Dn.get, putE, keepE_nil, keepE_cons, kp_some, kp_none, TV.one, TV.isAgg, Dn.part, k_boxR, negb, at0, at1, at2, at3, at4, dT, dF, wrapR_i64, Option.bind_some, Option.map_some, hlen, p1, p2, wn, u1, u2, c62, wk, wk2, hgt, hkl]
              · rw [l34_1, den_loop]
                simp (disch := omega) [l34_1, b34_0, go_nil, go_last, go_past, go_pastR, go_blkN, go_blkR, go_blkE, go_skip, go_exit, go_ret, go_scope, go_seq, go_reg, go_regd, go_opdN, go_opd, go_opdG, grdd_b, grdd_u, stpd_some, find_some, go_block, go_cond, cnd_b, go_opsN, go_ops, go_opsG, grd_b, grd_u, stp_some, fin_some, up_some, cont_some, k_call, k_mv, k_pick, k_bin, k_eqB, k_eqA, k_not, k_neg, k_conv, k_alloc, k_boxA, k_boxI, k_boxB, k_boxN, k_boxBs, k_ldR, k_ldA, k_ldI, k_ldB, k_stA, k_stI, k_stB, ldC_some, stC_some, k_mkfn, k_slc, k_slcA, k_ixA, k_ixBs, k_ixSl, k_fadr, k_fld, k_ext, k_len, k_app, k_mn, k_mx, k_nilck, k_build, k_bsl1, k_bsl2, b_add, b_sub, b_mul, b_eql, b_neq, b_lss, b_leq, b_gtr, b_geq, Dn.setLast, Dn.getLast, evalO, mapO, Dn.get, putE, keepE_nil, keepE_cons, kp_some, kp_none, TV.one, TV.isAgg, Dn.part, k_boxR, negb, at0, at1, at2, at3, at4, dT, dF, wrapR_i64, Option.bind_some, Option.map_some, hlen, p1, p2, wn, u1, u2, c62, wk, wk2, hgt, hkl]
            | false =>
              rw [hnr] at c62 hw
              refine .inr ⟨⟨k + 1, by omega, by rw [hw, hb0]; simp⟩, ?_⟩
              generalize ((k + 1 : Nat) : Int) = K1 at *
              rw [l34_1, den_loop]
              simp (disch := omega) [l34_1, b34_0, go_nil, go_last, go_past, go_pastR, go_blkN, go_blkR, go_blkE, go_skip, go_exit, go_ret, go_scope, go_seq, go_reg, go_regd, go_opdN, go_opd, go_opdG, grdd_b, grdd_u, stpd_some, find_some, go_block, go_cond, cnd_b, go_opsN, go_ops, go_opsG, grd_b, grd_u, stp_some, fin_some, up_some, cont_some, k_call, k_mv, k_pick, k_bin, k_eqB, k_eqA, k_not, k_neg, k_conv, k_alloc, k_boxA, k_boxI, k_boxB, k_boxN, k_boxBs, k_ldR, k_ldA, k_ldI, k_ldB, k_stA, k_stI, k_stB, ldC_some, stC_some, k_mkfn, k_slc, k_slcA, k_ixA, k_ixBs, k_ixSl, k_fadr, k_fld, k_ext, k_len, k_app, k_mn, k_mx, k_nilck, k_build, k_bsl1, k_bsl2, b_add, b_sub, b_mul, b_eql, b_neq, b_lss, b_leq, b_gtr, b_geq, Dn.setLast, Dn.getLast, evalO, mapO, Dn.get, putE, keepE_nil, keepE_cons, kp_some, kp_none, TV.one, TV.isAgg, Dn.part, k_boxR, negb, at0, at1, at2, at3, at4, dT, dF, wrapR_i64, Option.bind_some, Option.map_some, hlen, p1, p2, wn, u1, u2, c62, wk, hgt, hkl]
      · refine .inr ⟨⟨i, by omega, by rw [hw, dF q2]; simp⟩, ?_⟩
        rw [l34_1, den_loop]
        simp (disch := omega) [l34_1, b34_0, go_nil, go_last, go_past, go_pastR, go_blkN, go_blkR, go_blkE, go_skip, go_exit, go_ret, go_scope, go_seq, go_reg, go_regd, go_opdN, go_opd, go_opdG, grdd_b, grdd_u, stpd_some, find_some, go_block, go_cond, cnd_b, go_opsN, go_ops, go_opsG, grd_b, grd_u, stp_some, fin_some, up_some, cont_some, k_call, k_mv, k_pick, k_bin, k_eqB, k_eqA, k_not, k_neg, k_conv, k_alloc, k_boxA, k_boxI, k_boxB, k_boxN, k_boxBs, k_ldR, k_ldA, k_ldI, k_ldB, k_stA, k_stI, k_stB, ldC_some, stC_some, k_mkfn, k_slc, k_slcA, k_ixA, k_ixBs, k_ixSl, k_fadr, k_fld, k_ext, k_len, k_app, k_mn, k_mx, k_nilck, k_build, k_bsl1, k_bsl2, b_add, b_sub, b_mul, b_eql, b_neq, b_lss, b_leq, b_gtr, b_geq, Dn.setLast, Dn.getLast, evalO, mapO, Dn.get, putE, keepE_nil, keepE_cons, kp_some, kp_none, TV.one, TV.isAgg, Dn.part, k_boxR, negb, at0, at1, at2, at3, at4, dT, dF, wrapR_i64, Option.bind_some, Option.map_some, hlen, p1, p2, wn]
    · refine .inr ⟨⟨i, by omega, by rw [hw, dF q1]; simp⟩, ?_⟩
      rw [l34_1, den_loop]
      simp (disch := omega) [l34_1, b34_0, go_nil, go_last, go_past, go_pastR, go_blkN, go_blkR, go_blkE, go_skip, go_exit, go_ret, go_scope, go_seq, go_reg, go_regd, go_opdN, go_opd, go_opdG, grdd_b, grdd_u, stpd_some, find_some, go_block, go_cond, cnd_b, go_opsN, go_ops, go_opsG, grd_b, grd_u, stp_some, fin_some, up_some, cont_some, k_call, k_mv, k_pick, k_bin, k_eqB, k_eqA, k_not, k_neg, k_conv, k_alloc, k_boxA, k_boxI, k_boxB, k_boxN, k_boxBs, k_ldR, k_ldA, k_ldI, k_ldB, k_stA, k_stI, k_stB, ldC_some, stC_some, k_mkfn, k_slc, k_slcA, k_ixA, k_ixBs, k_ixSl, k_fadr, k_fld, k_ext, k_len, k_app, k_mn, k_mx, k_nilck, k_build, k_bsl1, k_bsl2, b_add, b_sub, b_mul, b_eql, b_neq, b_lss, b_leq, b_gtr, b_geq, Dn.setLast, Dn.getLast, evalO, mapO, Dn.get, putE, keepE_nil, keepE_cons, kp_some, kp_none, TV.one, TV.isAgg, Dn.part, k_boxR, negb, at0, at1, at2, at3, at4, dT, dF, wrapR_i64, Option.bind_some, Option.map_some, hlen, p1, p2, wn]

def isWay (r c : Nat) (l : List Int) : Bool := (List.range l.length).all (wayAt r c l) && decide (0 < l.length)

theorem fn34 {pg : Pg} (hF : Free pg) {r c : Nat} (h : Brd r c) {A : TV} {l : List Int} (hA : SV A l) (h64 : l.length ≤ 9223372036854775807) : PFn pg 34 [.i .i64 (r : Int), .i .i64 (c : Int), A] (.b (isWay r c l)) := by
  have hlen := fun K => (hA.view K).lenK K
  refine .inr ⟨hF.S _ _ (by decide), .b (isWay r c l), [], body_of (x := .ret) (e := [(6, .b (isWay r c l))]) (d := d34) (by rw [hF.F]; rfl) rfl ?_ (.inl rfl) rfl, sn_b _ _ _⟩
  rcases l34_all (pg := pg) (H := []) hF h hA h64 l.length 0 (by omega) (fun j hj => by omega) with ⟨k1, e, k2, k3⟩ | ⟨⟨j, j1, j2⟩, k2⟩
  · have hw : isWay r c l = decide ((0 : Int) < (l.length : Int)) := by
      unfold isWay
      rw [List.all_eq_true.2 fun j hj => k1 j (List.mem_range.1 hj), Bool.true_and]
      exact decide_eq_decide.2 (by omega)
    simp only [Int.natCast_zero] at k2
    rw [hw]
    simp [d34, c34, zipE, go_nil, go_last, go_past, go_pastR, go_blkN, go_blkR, go_blkE, go_skip, go_exit, go_ret, go_scope, go_seq, go_reg, go_regd, go_opdN, go_opd, go_opdG, grdd_b, grdd_u, stpd_some, find_some, go_block, go_cond, cnd_b, go_opsN, go_ops, go_opsG, grd_b, grd_u, stp_some, fin_some, up_some, cont_some, k_call, k_mv, k_pick, k_bin, k_eqB, k_eqA, k_not, k_neg, k_conv, k_alloc, k_boxA, k_boxI, k_boxB, k_boxN, k_boxBs, k_ldR, k_ldA, k_ldI, k_ldB, k_stA, k_stI, k_stB, ldC_some, stC_some, k_mkfn, k_slc, k_slcA, k_ixA, k_ixBs, k_ixSl, k_fadr, k_fld, k_ext, k_len, k_app, k_mn, k_mx, k_nilck, k_build, k_bsl1, k_bsl2, b_add, b_sub, b_mul, b_eql, b_neq, b_lss, b_leq, b_gtr, b_geq, Dn.setLast, Dn.getLast, evalO, mapO, Dn.get, putE, keepE, TV.one, TV.isAgg, Dn.part, go_denK (c := l34_1) rfl, k2, k3, hlen]
  · have hw : isWay r c l = false := by
      unfold isWay
      rw [Bool.and_eq_false_iff]
      refine .inl ?_
      rw [List.all_eq_false]
      exact ⟨j, List.mem_range.2 j1, by simp [j2]⟩
    simp only [Int.natCast_zero] at k2
    rw [hw]
    simp (disch := omega) [d34, c34, zipE, go_nil, go_last, go_past, go_pastR, go_blkN, go_blkR, go_blkE, go_skip, go_exit, go_ret, go_scope, go_seq, go_reg, go_regd, go_opdN, go_opd, go_opdG, grdd_b, grdd_u, stpd_some, find_some, go_block, go_cond, cnd_b, go_opsN, go_ops, go_opsG, grd_b, grd_u, stp_some, fin_some, up_some, cont_some, k_call, k_mv, k_pick, k_bin, k_eqB, k_eqA, k_not, k_neg, k_conv, k_alloc, k_boxA, k_boxI, k_boxB, k_boxN, k_boxBs, k_ldR, k_ldA, k_ldI, k_ldB, k_stA, k_stI, k_stB, ldC_some, stC_some, k_mkfn, k_slc, k_slcA, k_ixA, k_ixBs, k_ixSl, k_fadr, k_fld, k_ext, k_len, k_app, k_mn, k_mx, k_nilck, k_build, k_bsl1, k_bsl2, b_add, b_sub, b_mul, b_eql, b_neq, b_lss, b_leq, b_gtr, b_geq, Dn.setLast, Dn.getLast, evalO, mapO, Dn.get, putE, keepE_nil, keepE_cons, kp_some, kp_none, TV.one, TV.isAgg, Dn.part, k_boxR, negb, at0, at1, at2, at3, at4, dT, dF, wrapR_i64, Option.bind_some, Option.map_some, go_denK (c := l34_1) rfl, k2]

/-! the program's way -/
def wy (r c a : Nat) : Nat → Nat → List Nat
  | 0, b => [b]
  | m + 1, b => wy r c a m (back r c a m b) ++ [b]

end Go.Proofs.Tryd.Dn

/-
  Knight: the law of moves, run.
-/

namespace Go.Proofs.Tryd.Dn
open Go.Dn

theorem PFn.at {pg : Pg} {f : Nat} {xs : List TV} {r : TV} (h : PFn pg f xs r) (hs : ∀ H, snapArgs H [] xs = some xs) (H : Heap) : callRun pg (den pg) (.pu []) (.fn f [] [] :: xs) H = some (r, H) :=
  PFn.call h (args := xs) (ks := []) (fs := []) (cs := []) (H := H) (by rw [List.nil_append, List.append_nil]; exact hs H)

theorem sa_I {H : Heap} {k : IntKind} {n : Int} {l : List TV} (h : snapArgs H [] l = some l) : snapArgs H [] (.i k n :: l) = some (.i k n :: l) := by
  simp [snapArgs, sn_i, h]
theorem sa_0 {H : Heap} : snapArgs H [] [] = some [] := rfl

end Go.Proofs.Tryd.Dn

