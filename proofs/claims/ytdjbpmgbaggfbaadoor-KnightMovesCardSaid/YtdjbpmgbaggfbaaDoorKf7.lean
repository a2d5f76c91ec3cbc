/-
  Knight: ways, in plain terms and in the program; the reference's looks at them.
-/
import Derived.Test.YtdjbpmgbaggfbaaDoorKf6
import Derived.Test.YtdjbpmgbaggfbaaDoorKf5
import Derived.Test.YtdjbpmgbaggfbaaDoorDd
import Derived.Test.YtdjbpmgbaggfbaaDoorKf
set_option linter.unusedSimpArgs false
set_option linter.unusedVariables false

namespace Go.Proofs.Tryd.Dn
open Go.Dn

/-! the reference's least numbers of steps -/
def StepsOk (r c a : Nat) (o : List Int) : Prop := o.length = r * c ∧
  ∀ b, b < r * c → (∃ m : Nat, (front r c a m).testBit b = true ∧ o.getD b 0 = (m : Int)) ∨ ((∀ m, (front r c a m).testBit b = false) ∧ o.getD b 0 = -1)

theorem fn31 {pg : Pg} (hF : Free pg) {r c a : Nat} (h : Brd r c) (ha : a < r * c) : ∃ o, StepsOk r c a o ∧ PFn pg 31 [.i .i64 (r : Int), .i .i64 (c : Int), .i .i64 (a : Int)] (.bs false 1 (o.map elI.val)) := by
  have hn := h.n36
  obtain ⟨hcast, wn⟩ := rc_facts h
  have hmk := k_mksl (pg := pg) (R := den pg) [.i .i64 0] false 8 .i64 .i64 (r * c) [] (by omega) (by omega)
  have harr := El.arr_mksl elI [] 0 (r * c)
  have hmk' : dkc pg (den pg) (.mksl [.i .i64 0] false 8) [.i .i64 ((r : Int) * c), .i .i64 ((r : Int) * c)] [] = some (.sl 0 0 1 false (r * c) (some (r * c)), [] ++ [.cells (repl (elI.enc 0) (r * c)) false]) := by rw [← hcast]; exact hmk
  obtain ⟨H0, hH0⟩ : ∃ H0 : Heap, H0 = [] ++ [.cells (repl (elI.enc 0) (r * c)) false] := ⟨_, rfl⟩
  obtain ⟨O, hO⟩ : ∃ O : TV, O = .sl 0 0 1 false (r * c) (some (r * c)) := ⟨_, rfl⟩
  have harr' : elI.Arr H0 O (List.replicate 0 (-1) ++ List.replicate (r * c) 0) := by
    have e0 : List.replicate 0 (-1 : Int) ++ List.replicate (r * c) 0 = List.replicate (r * c) 0 := by simp
    rw [e0, hH0, hO]; exact harr
  rw [← hO, ← hH0] at hmk'
  have hOid : O.idOf = some 0 := by rw [hO]; rfl
  obtain ⟨e1, H1, p1, p2, p3, p4⟩ := l31_1_all (pg := pg) hF h (A := .i .i64 (a : Int)) (r * c) 0 H0 (by omega) harr'
  simp only [Int.natCast_zero] at p1
  have g0 := keep_get p2 (s := 0) (by simp) rfl
  have g1 := keep_get p2 (s := 1) (by simp) rfl
  have g2 := keep_get p2 (s := 2) (by simp) rfl
  have g7 := keep_get p2 (s := 7) (by simp) rfl
  obtain ⟨id, o, a0, a1, a2, a3⟩ := arrI (pg := pg) (R := den pg) p3 (i := a) (x := -1) (by rw [List.getElem?_replicate, if_pos ha])
  obtain ⟨H2, s1, s2, s3, s4⟩ := a3 0
  obtain ⟨H3, hH3⟩ : ∃ H3 : Heap, H3 = H2 ++ [.cells [.i .i64 (a : Int)] false] := ⟨_, rfl⟩
  have hl2 : 1 ≤ H2.length := by have := p3.lt 0 hOid; omega
  have hBM : BM H3 O (.sl H2.length 0 1 false 1 (some 1)) ((List.replicate (r * c) (-1 : Int)).set a 0) [a] := by
    refine ⟨s2.mono fun j hj => by rw [hH3, List.getElem?_append_left (s2.lt j hj)], ⟨H2.length, 0, some 1, [.i .i64 (a : Int)], false, rfl, by rw [hH3]; exact getLast _ _, by simp [nI], by simp [nI], fun k hk => by cases hk; simp [nI]⟩, ?_⟩
    rw [hOid]
    intro he
    have : (0 : Nat) = H2.length := Option.some.inj he
    omega
  obtain ⟨e2, H4, o', q1, q2, q3, q4, q5⟩ := l31_5_all (pg := pg) hF h ha (r * c) 0 _ [a] O _ H3 (by omega) (by simp) (BInv.start h ha) hBM
  simp only [Int.natCast_zero] at q1
  refine ⟨o', ⟨q4, q5⟩, .inr ⟨hF.S _ _ (by decide), O, H4, body_of (x := .ret) (e := [(6, O)]) (d := d31) (by rw [hF.F]; rfl) rfl ?_ (.inl rfl) rfl, ?_⟩⟩
  · simp (disch := omega) [d31, c31, zipE, go_nil, go_last, go_past, go_pastR, go_blkN, go_blkR, go_blkE, go_skip, go_exit, go_ret, go_scope, go_seq, go_reg, go_regd, go_opdN, go_opd, go_opdG, grdd_b, grdd_u, stpd_some, find_some, go_block, go_cond, cnd_b, go_opsN, go_ops, go_opsG, grd_b, grd_u, stp_some, fin_some, up_some, cont_some, k_call, k_mv, k_pick, k_bin, k_eqB, k_eqA, k_not, k_neg, k_conv, k_alloc, k_boxA, k_boxI, k_boxB, k_boxN, k_boxBs, k_ldR, k_ldA, k_ldI, k_ldB, k_stA, k_stI, k_stB, ldC_some, stC_some, k_mkfn, k_slc, k_slcA, k_ixA, k_ixBs, k_ixSl, k_fadr, k_fld, k_ext, k_len, k_app, k_mn, k_mx, k_nilck, k_build, k_bsl1, k_bsl2, b_add, b_sub, b_mul, b_eql, b_neq, b_lss, b_leq, b_gtr, b_geq, Dn.setLast, Dn.getLast, evalO, mapO, Dn.get, putE, keepE_nil, keepE_cons, kp_some, kp_none, TV.one, TV.isAgg, Dn.part, negb, at0, at1, at2, at3, at4, dT, dF, wrapR_i64, Option.bind_some, Option.map_some, wn, hmk', go_denK (c := l31_1) rfl, p1, g0, g1, g2, g7, a1, s1, ← hH3, go_denK (c := l31_5) rfl, q1, q2]
  · exact q3.to (m := .fin) (E' := elI) (by decide) rfl (mapO_map fun a _ => snS_i _ _ _ _ _)

/-! two lists compared -/
theorem l32_all {pg : Pg} {A B : TV} {la lb : List Int} (hA : SV A la) (hB : SV B lb) (hl : la.length = lb.length) (h64 : la.length ≤ 9223372036854775807) {H : Heap} : ∀ (d i : Nat), i + d = la.length →
    (la.drop i = lb.drop i ∧ ∃ e, den pg l32_1 [(0, A), (1, B), (5, .i .i64 (i : Int))] H = some ⟨.exit 0, e, H⟩) ∨ (la.drop i ≠ lb.drop i ∧ den pg l32_1 [(0, A), (1, B), (5, .i .i64 (i : Int))] H = some ⟨.ret, [(4, .b false)], H⟩)
  | 0, i, hd => by
    have hlen := fun K => (hA.view K).lenK K
    refine .inl ⟨by rw [List.drop_eq_nil_of_le (by omega), List.drop_eq_nil_of_le (by omega)], _, by
      rw [l32_1, den_loop]
      simp (disch := omega) [b32_0, go_nil, go_last, go_past, go_pastR, go_blkN, go_blkR, go_blkE, go_skip, go_exit, go_ret, go_scope, go_seq, go_reg, go_regd, go_opdN, go_opd, go_opdG, grdd_b, grdd_u, stpd_some, find_some, go_block, go_cond, cnd_b, go_opsN, go_ops, go_opsG, grd_b, grd_u, stp_some, fin_some, up_some, cont_some, k_call, k_mv, k_pick, k_bin, k_eqB, k_eqA, k_not, k_neg, k_conv, k_alloc, k_boxA, k_boxI, k_boxB, k_boxN, k_boxBs, k_ldR, k_ldA, k_ldI, k_ldB, k_stA, k_stI, k_stB, ldC_some, stC_some, k_mkfn, k_slc, k_slcA, k_ixA, k_ixBs, k_ixSl, k_fadr, k_fld, k_ext, k_len, k_app, k_mn, k_mx, k_nilck, k_build, k_bsl1, k_bsl2, b_add, b_sub, b_mul, b_eql, b_neq, b_lss, b_leq, b_gtr, b_geq, Dn.setLast, Dn.getLast, evalO, mapO, Dn.get, putE, keepE_nil, keepE_cons, kp_some, kp_none, TV.one, TV.isAgg, Dn.part, negb, at0, at1, at2, at3, at4, dT, dF, wrapR_i64, Option.bind_some, Option.map_some, hlen]
      rfl⟩
  | d + 1, i, hd => by
    have hlen := fun K => (hA.view K).lenK K
    have hx : la[i]? = some la[i] := List.getElem?_eq_getElem (by omega)
    have hy : lb[i]? = some lb[i] := List.getElem?_eq_getElem (by omega)
    have da : la.drop i = la[i] :: la.drop (i + 1) := List.drop_eq_getElem_cons (by omega)
    have db : lb.drop i = lb[i] :: lb.drop (i + 1) := List.drop_eq_getElem_cons (by omega)
    rw [da, db]
    generalize la[i] = x at *
    generalize lb[i] = y at *
    obtain ⟨p, p1, p2⟩ := ixI (pg := pg) (R := den pg) (hA.view H) hx
    obtain ⟨q, q1, q2⟩ := ixI (pg := pg) (R := den pg) (hB.view H) hy
    by_cases hxy : x = y
    · subst hxy
      rcases l32_all (pg := pg) (H := H) hA hB hl h64 d (i + 1) (by omega) with ⟨h1, e, h2⟩ | ⟨h1, h2⟩
      · refine .inl ⟨by rw [h1], e, Eq.trans ?_ h2⟩
        rw [l32_1, den_loop]
        simp (disch := omega) [l32_1, b32_0, go_nil, go_last, go_past, go_pastR, go_blkN, go_blkR, go_blkE, go_skip, go_exit, go_ret, go_scope, go_seq, go_reg, go_regd, go_opdN, go_opd, go_opdG, grdd_b, grdd_u, stpd_some, find_some, go_block, go_cond, cnd_b, go_opsN, go_ops, go_opsG, grd_b, grd_u, stp_some, fin_some, up_some, cont_some, k_call, k_mv, k_pick, k_bin, k_eqB, k_eqA, k_not, k_neg, k_conv, k_alloc, k_boxA, k_boxI, k_boxB, k_boxN, k_boxBs, k_ldR, k_ldA, k_ldI, k_ldB, k_stA, k_stI, k_stB, ldC_some, stC_some, k_mkfn, k_slc, k_slcA, k_ixA, k_ixBs, k_ixSl, k_fadr, k_fld, k_ext, k_len, k_app, k_mn, k_mx, k_nilck, k_build, k_bsl1, k_bsl2, b_add, b_sub, b_mul, b_eql, b_neq, b_lss, b_leq, b_gtr, b_geq, Dn.setLast, Dn.getLast, evalO, mapO, Dn.get, putE, keepE_nil, keepE_cons, kp_some, kp_none, TV.one, TV.isAgg, Dn.part, negb, at0, at1, at2, at3, at4, dT, dF, wrapR_i64, Option.bind_some, Option.map_some, hlen, p1, p2, q1, q2]
      · refine .inr ⟨by simpa using h1, Eq.trans ?_ h2⟩
        rw [l32_1, den_loop]
        simp (disch := omega) [l32_1, b32_0, go_nil, go_last, go_past, go_pastR, go_blkN, go_blkR, go_blkE, go_skip, go_exit, go_ret, go_scope, go_seq, go_reg, go_regd, go_opdN, go_opd, go_opdG, grdd_b, grdd_u, stpd_some, find_some, go_block, go_cond, cnd_b, go_opsN, go_ops, go_opsG, grd_b, grd_u, stp_some, fin_some, up_some, cont_some, k_call, k_mv, k_pick, k_bin, k_eqB, k_eqA, k_not, k_neg, k_conv, k_alloc, k_boxA, k_boxI, k_boxB, k_boxN, k_boxBs, k_ldR, k_ldA, k_ldI, k_ldB, k_stA, k_stI, k_stB, ldC_some, stC_some, k_mkfn, k_slc, k_slcA, k_ixA, k_ixBs, k_ixSl, k_fadr, k_fld, k_ext, k_len, k_app, k_mn, k_mx, k_nilck, k_build, k_bsl1, k_bsl2, b_add, b_sub, b_mul, b_eql, b_neq, b_lss, b_leq, b_gtr, b_geq, Dn.setLast, Dn.getLast, evalO, mapO, Dn.get, putE, keepE_nil, keepE_cons, kp_some, kp_none, TV.one, TV.isAgg, Dn.part, negb, at0, at1, at2, at3, at4, dT, dF, wrapR_i64, Option.bind_some, Option.map_some, hlen, p1, p2, q1, q2]
    · refine .inr ⟨by simp [hxy], ?_⟩
      rw [l32_1, den_loop]
      simp (disch := omega) [b32_0, go_nil, go_last, go_past, go_pastR, go_blkN, go_blkR, go_blkE, go_skip, go_exit, go_ret, go_scope, go_seq, go_reg, go_regd, go_opdN, go_opd, go_opdG, grdd_b, grdd_u, stpd_some, find_some, go_block, go_cond, cnd_b, go_opsN, go_ops, go_opsG, grd_b, grd_u, stp_some, fin_some, up_some, cont_some, k_call, k_mv, k_pick, k_bin, k_eqB, k_eqA, k_not, k_neg, k_conv, k_alloc, k_boxA, k_boxI, k_boxB, k_boxN, k_boxBs, k_ldR, k_ldA, k_ldI, k_ldB, k_stA, k_stI, k_stB, ldC_some, stC_some, k_mkfn, k_slc, k_slcA, k_ixA, k_ixBs, k_ixSl, k_fadr, k_fld, k_ext, k_len, k_app, k_mn, k_mx, k_nilck, k_build, k_bsl1, k_bsl2, b_add, b_sub, b_mul, b_eql, b_neq, b_lss, b_leq, b_gtr, b_geq, Dn.setLast, Dn.getLast, evalO, mapO, Dn.get, putE, keepE_nil, keepE_cons, kp_some, kp_none, TV.one, TV.isAgg, Dn.part, negb, at0, at1, at2, at3, at4, dT, dF, wrapR_i64, Option.bind_some, Option.map_some, hlen, p1, p2, q1, q2, bneT hxy]

theorem fn32 {pg : Pg} (hF : Free pg) {A B : TV} {la lb : List Int} (hA : SV A la) (hB : SV B lb) (h1 : la.length ≤ 9223372036854775807) (h2 : lb.length ≤ 9223372036854775807) : PFn pg 32 [A, B] (.b (decide (la = lb))) := by
  have hla := fun K => (hA.view K).lenK K
  have hlb := fun K => (hB.view K).lenK K
  refine .inr ⟨hF.S _ _ (by decide), .b (decide (la = lb)), [], body_of (x := .ret) (e := [(4, .b (decide (la = lb)))]) (d := d32) (by rw [hF.F]; rfl) rfl ?_ (.inl rfl) rfl, sn_b _ _ _⟩
  by_cases hl : la.length = lb.length
  · rcases l32_all (pg := pg) (H := []) hA hB hl h1 la.length 0 (by omega) with ⟨k1, e, k2⟩ | ⟨k1, k2⟩
    · simp only [Int.natCast_zero, List.drop_zero] at k1 k2
      rw [dT k1]
      simp (disch := omega) [d32, c32, zipE, go_nil, go_last, go_past, go_pastR, go_blkN, go_blkR, go_blkE, go_skip, go_exit, go_ret, go_scope, go_seq, go_reg, go_regd, go_opdN, go_opd, go_opdG, grdd_b, grdd_u, stpd_some, find_some, go_block, go_cond, cnd_b, go_opsN, go_ops, go_opsG, grd_b, grd_u, stp_some, fin_some, up_some, cont_some, k_call, k_mv, k_pick, k_bin, k_eqB, k_eqA, k_not, k_neg, k_conv, k_alloc, k_boxA, k_boxI, k_boxB, k_boxN, k_boxBs, k_ldR, k_ldA, k_ldI, k_ldB, k_stA, k_stI, k_stB, ldC_some, stC_some, k_mkfn, k_slc, k_slcA, k_ixA, k_ixBs, k_ixSl, k_fadr, k_fld, k_ext, k_len, k_app, k_mn, k_mx, k_nilck, k_build, k_bsl1, k_bsl2, b_add, b_sub, b_mul, b_eql, b_neq, b_lss, b_leq, b_gtr, b_geq, Dn.setLast, Dn.getLast, evalO, mapO, Dn.get, putE, keepE_nil, keepE_cons, kp_some, kp_none, TV.one, TV.isAgg, Dn.part, negb, at0, at1, at2, at3, at4, dT, dF, wrapR_i64, Option.bind_some, Option.map_some, hla, hlb, hl, go_denK (c := l32_1) rfl, k2]
    · simp only [Int.natCast_zero, List.drop_zero] at k1 k2
      rw [dF k1]
      simp (disch := omega) [d32, c32, zipE, go_nil, go_last, go_past, go_pastR, go_blkN, go_blkR, go_blkE, go_skip, go_exit, go_ret, go_scope, go_seq, go_reg, go_regd, go_opdN, go_opd, go_opdG, grdd_b, grdd_u, stpd_some, find_some, go_block, go_cond, cnd_b, go_opsN, go_ops, go_opsG, grd_b, grd_u, stp_some, fin_some, up_some, cont_some, k_call, k_mv, k_pick, k_bin, k_eqB, k_eqA, k_not, k_neg, k_conv, k_alloc, k_boxA, k_boxI, k_boxB, k_boxN, k_boxBs, k_ldR, k_ldA, k_ldI, k_ldB, k_stA, k_stI, k_stB, ldC_some, stC_some, k_mkfn, k_slc, k_slcA, k_ixA, k_ixBs, k_ixSl, k_fadr, k_fld, k_ext, k_len, k_app, k_mn, k_mx, k_nilck, k_build, k_bsl1, k_bsl2, b_add, b_sub, b_mul, b_eql, b_neq, b_lss, b_leq, b_gtr, b_geq, Dn.setLast, Dn.getLast, evalO, mapO, Dn.get, putE, keepE_nil, keepE_cons, kp_some, kp_none, TV.one, TV.isAgg, Dn.part, negb, at0, at1, at2, at3, at4, dT, dF, wrapR_i64, Option.bind_some, Option.map_some, hla, hlb, hl, go_denK (c := l32_1) rfl, k2]
  · have : ¬ la = lb := by rintro rfl; exact hl rfl
    rw [dF this]
    have hne : (((la.length : Int) != (lb.length : Int)) = true) := bneT (by omega)
    simp (disch := omega) [d32, c32, zipE, go_nil, go_last, go_past, go_pastR, go_blkN, go_blkR, go_blkE, go_skip, go_exit, go_ret, go_scope, go_seq, go_reg, go_regd, go_opdN, go_opd, go_opdG, grdd_b, grdd_u, stpd_some, find_some, go_block, go_cond, cnd_b, go_opsN, go_ops, go_opsG, grd_b, grd_u, stp_some, fin_some, up_some, cont_some, k_call, k_mv, k_pick, k_bin, k_eqB, k_eqA, k_not, k_neg, k_conv, k_alloc, k_boxA, k_boxI, k_boxB, k_boxN, k_boxBs, k_ldR, k_ldA, k_ldI, k_ldB, k_stA, k_stI, k_stB, ldC_some, stC_some, k_mkfn, k_slc, k_slcA, k_ixA, k_ixBs, k_ixSl, k_fadr, k_fld, k_ext, k_len, k_app, k_mn, k_mx, k_nilck, k_build, k_bsl1, k_bsl2, b_add, b_sub, b_mul, b_eql, b_neq, b_lss, b_leq, b_gtr, b_geq, Dn.setLast, Dn.getLast, evalO, mapO, Dn.get, putE, keepE_nil, keepE_cons, kp_some, kp_none, TV.one, TV.isAgg, Dn.part, negb, at0, at1, at2, at3, at4, dT, dF, wrapR_i64, Option.bind_some, Option.map_some, hla, hlb, hne]

/-! whether a list is a way -/
def wayAt (r c : Nat) (l : List Int) (i : Nat) : Bool := decide (0 ≤ l.getD i 0) && decide (l.getD i 0 < ((r * c : Nat) : Int)) && (i == 0 || near c (l.getD (i - 1) 0).toNat (l.getD i 0).toNat)

theorem l34_all {pg : Pg} (hF : Free pg) {r c : Nat} (h : Brd r c) {A : TV} {l : List Int} (hA : SV A l) (h64 : l.length ≤ 9223372036854775807) {H : Heap} : ∀ (d i : Nat), i + d = l.length → (∀ j, j < i → wayAt r c l j = true) →
    ((∀ j, j < l.length → wayAt r c l j = true) ∧ ∃ e, den pg l34_1 [(0, .i .i64 (r : Int)), (1, .i .i64 (c : Int)), (2, A), (7, .i .i64 (i : Int))] H = some ⟨.exit 0, e, H⟩ ∧ Dn.get e 2 = some A) ∨
    ((∃ j, j < l.length ∧ wayAt r c l j = false) ∧ den pg l34_1 [(0, .i .i64 (r : Int)), (1, .i .i64 (c : Int)), (2, A), (7, .i .i64 (i : Int))] H = some ⟨.ret, [(6, .b false)], H⟩)
  | 0, i, hd, hp => by
    have hlen := fun K => (hA.view K).lenK K
    refine .inl ⟨fun j hj => hp j (by omega), _, by
      rw [l34_1, den_loop]
      simp (disch := omega) [b34_0, go_nil, go_last, go_past, go_pastR, go_blkN, go_blkR, go_blkE, go_skip, go_exit, go_ret, go_scope, go_seq, go_reg, go_regd, go_opdN, go_opd, go_opdG, grdd_b, grdd_u, stpd_some, find_some, go_block, go_cond, cnd_b, go_opsN, go_ops, go_opsG, grd_b, grd_u, stp_some, fin_some, up_some, cont_some, k_call, k_mv, k_pick, k_bin, k_eqB, k_eqA, k_not, k_neg, k_conv, k_alloc, k_boxA, k_boxI, k_boxB, k_boxN, k_boxBs, k_ldR, k_ldA, k_ldI, k_ldB, k_stA, k_stI, k_stB, ldC_some, stC_some, k_mkfn, k_slc, k_slcA, k_ixA, k_ixBs, k_ixSl, k_fadr, k_fld, k_ext, k_len, k_app, k_mn, k_mx, k_nilck, k_build, k_bsl1, k_bsl2, b_add, b_sub, b_mul, b_eql, b_neq, b_lss, b_leq, b_gtr, b_geq, Dn.setLast, Dn.getLast, evalO, mapO, Dn.get, putE, keepE_nil, keepE_cons, kp_some, kp_none, TV.one, TV.isAgg, Dn.part, negb, at0, at1, at2, at3, at4, dT, dF, wrapR_i64, Option.bind_some, Option.map_some, hlen]
      rfl, rfl⟩
  | d + 1, i, hd, hp => by
    have hn := h.n36
    obtain ⟨hcast, wn⟩ := rc_facts h
    have hlen := fun K => (hA.view K).lenK K
    obtain ⟨p, p1, p2⟩ := ixI (pg := pg) (R := den pg) (hA.view H) (getD_some (l := l) (x := i) (by omega))
    have hw : wayAt r c l i = (decide (0 ≤ l.getD i 0) && decide (l.getD i 0 < ((r * c : Nat) : Int)) && (i == 0 || near c (l.getD (i - 1) 0).toNat (l.getD i 0).toNat)) := rfl
    have hprev : i = 0 ∨ (0 ≤ l.getD (i - 1) 0 ∧ l.getD (i - 1) 0 < ((r * c : Nat) : Int)) := by
      by_cases h0 : i = 0
      · exact .inl h0
      · have := hp (i - 1) (by omega)
        unfold wayAt at this
        simp only [Bool.and_eq_true, decide_eq_true_eq] at this
        exact .inr this.1
    generalize hx : l.getD i 0 = x at *
    by_cases q1 : 0 ≤ x
    · by_cases q2 : x < ((r * c : Nat) : Int)
      · obtain ⟨xn, rfl⟩ : ∃ n : Nat, x = (n : Int) := ⟨x.toNat, by omega⟩
        by_cases h0 : i = 0
        · subst h0
          have hok : wayAt r c l 0 = true := by rw [hw]; simp; omega
          have ih := l34_all (pg := pg) (H := H) hF h hA h64 d 1 (by omega) fun j hj => by
            have : j = 0 := by omega
            subst this; exact hok
          refine ih.imp (fun ⟨a1, e, a2, a3⟩ => ⟨a1, e, Eq.trans ?_ a2, a3⟩) (fun ⟨a1, a2⟩ => ⟨a1, Eq.trans ?_ a2⟩)
          · simp only [Int.natCast_zero] at p1
            rw [l34_1, den_loop]
            simp (disch := omega) [l34_1, b34_0, go_nil, go_last, go_past, go_pastR, go_blkN, go_blkR, go_blkE, go_skip, go_exit, go_ret, go_scope, go_seq, go_reg, go_regd, go_opdN, go_opd, go_opdG, grdd_b, grdd_u, stpd_some, find_some, go_block, go_cond, cnd_b, go_opsN, go_ops, go_opsG, grd_b, grd_u, stp_some, fin_some, up_some, cont_some, k_call, k_mv, k_pick, k_bin, k_eqB, k_eqA, k_not, k_neg, k_conv, k_alloc, k_boxA, k_boxI, k_boxB, k_boxN, k_boxBs, k_ldR, k_ldA, k_ldI, k_ldB, k_stA, k_stI, k_stB, ldC_some, stC_some, k_mkfn, k_slc, k_slcA, k_ixA, k_ixBs, k_ixSl, k_fadr, k_fld, k_ext, k_len, k_app, k_mn, k_mx, k_nilck, k_build, k_bsl1, k_bsl2, b_add, b_sub, b_mul, b_eql, b_neq, b_lss, b_leq, b_gtr, b_geq, Dn.setLast, Dn.getLast, evalO, mapO, Dn.get, putE, keepE_nil, keepE_cons, kp_some, kp_none, TV.one, TV.isAgg, Dn.part, negb, at0, at1, at2, at3, at4, dT, dF, wrapR_i64, Option.bind_some, Option.map_some, hlen, p1, p2, wn, show ((1 : Nat) : Int) = 1 from rfl]
          · simp only [Int.natCast_zero] at p1
            rw [l34_1, den_loop]
            simp (disch := omega) [l34_1, b34_0, go_nil, go_last, go_past, go_pastR, go_blkN, go_blkR, go_blkE, go_skip, go_exit, go_ret, go_scope, go_seq, go_reg, go_regd, go_opdN, go_opd, go_opdG, grdd_b, grdd_u, stpd_some, find_some, go_block, go_cond, cnd_b, go_opsN, go_ops, go_opsG, grd_b, grd_u, stp_some, fin_some, up_some, cont_some, k_call, k_mv, k_pick, k_bin, k_eqB, k_eqA, k_not, k_neg, k_conv, k_alloc, k_boxA, k_boxI, k_boxB, k_boxN, k_boxBs, k_ldR, k_ldA, k_ldI, k_ldB, k_stA, k_stI, k_stB, ldC_some, stC_some, k_mkfn, k_slc, k_slcA, k_ixA, k_ixBs, k_ixSl, k_fadr, k_fld, k_ext, k_len, k_app, k_mn, k_mx, k_nilck, k_build, k_bsl1, k_bsl2, b_add, b_sub, b_mul, b_eql, b_neq, b_lss, b_leq, b_gtr, b_geq, Dn.setLast, Dn.getLast, evalO, mapO, Dn.get, putE, keepE_nil, keepE_cons, kp_some, kp_none, TV.one, TV.isAgg, Dn.part, negb, at0, at1, at2, at3, at4, dT, dF, wrapR_i64, Option.bind_some, Option.map_some, hlen, p1, p2, wn, show ((1 : Nat) : Int) = 1 from rfl]
        · obtain ⟨k, rfl⟩ : ∃ k, i = k + 1 := ⟨i - 1, by omega⟩
          obtain ⟨q, u1, u2⟩ := ixI (pg := pg) (R := den pg) (hA.view H) (getD_some (l := l) (x := k) (by omega))
          rcases hprev with hprev | hprev
          · omega
          · have hb0 : ((k + 1 == 0) : Bool) = false := rfl
            rw [Nat.add_sub_cancel] at hprev hw
            generalize l.getD k 0 = y at *
            obtain ⟨yn, rfl⟩ : ∃ n : Nat, y = (n : Int) := ⟨y.toNat, by omega⟩
            have c62 := call62 (pg := pg) hF h.c1 h.c8 (a := yn) (b := xn) (by omega) (by omega) H
            simp only [Int.toNat_natCast] at hw
            have wk : wrapR .i64 (((k + 1 : Nat) : Int) - 1) = .i .i64 (k : Int) := by rw [show ((k + 1 : Nat) : Int) - 1 = (k : Int) by omega]; exact wrapR_i64 (by omega)
            have hgt : decide ((0 : Int) < ((k + 1 : Nat) : Int)) = true := dT (by omega)
            have hkl : decide (((k + 1 : Nat) : Int) < (l.length : Int)) = true := dT (by omega)
            have wk2 : wrapR .i64 (((k + 1 : Nat) : Int) + 1) = .i .i64 ((k + 1 + 1 : Nat) : Int) := by rw [show ((k + 1 : Nat) : Int) + 1 = ((k + 1 + 1 : Nat) : Int) by omega]; exact wrapR_i64 (by omega)
            cases hnr : near c yn xn with
            | true =>
              rw [hnr] at c62 hw
              have hok : wayAt r c l (k + 1) = true := by rw [hw]; simp; omega
              have ih := l34_all (pg := pg) (H := H) hF h hA h64 d (k + 1 + 1) (by omega) fun j hj => by
                by_cases hjk : j = k + 1
                · rw [hjk]; exact hok
                · exact hp j (by omega)
              generalize ((k + 1 : Nat) : Int) = K1 at *
              refine ih.imp (fun ⟨a1, e, a2, a3⟩ => ⟨a1, e, Eq.trans ?_ a2, a3⟩) (fun ⟨a1, a2⟩ => ⟨a1, Eq.trans ?_ a2⟩)
              · rw [l34_1, den_loop]
                simp (disch := omega) [l34_1, b34_0, go_nil, go_last, go_past, go_pastR, go_blkN, go_blkR, go_blkE, go_skip, go_exit, go_ret, go_scope, go_seq, go_reg, go_regd, go_opdN, go_opd, go_opdG, grdd_b, grdd_u, stpd_some, find_some, go_block, go_cond, cnd_b, go_opsN, go_ops, go_opsG, grd_b, grd_u, stp_some, fin_some, up_some, cont_some, k_call, k_mv, k_pick, k_bin, k_eqB, k_eqA, k_not, k_neg, k_conv, k_alloc, k_boxA, k_boxI, k_boxB, k_boxN, k_boxBs, k_ldR, k_ldA, k_ldI, k_ldB, k_stA, k_stI, k_stB, ldC_some, stC_some, k_mkfn, k_slc, k_slcA, k_ixA, k_ixBs, k_ixSl, k_fadr, k_fld, k_ext, k_len, k_app, k_mn, k_mx, k_nilck, k_build, k_bsl1, k_bsl2, b_add, b_sub, b_mul, b_eql, b_neq, b_lss, b_leq, b_gtr, b_geq, Dn.setLast, Dn.getLast, evalO, mapO, Dn.get, putE, keepE_nil, keepE_cons, kp_some, kp_none, TV.one, TV.isAgg, Dn.part, negb, at0, at1, at2, at3, at4, dT, dF, wrapR_i64, Option.bind_some, Option.map_some, hlen, p1, p2, wn, u1, u2, c62, wk, wk2, hgt, hkl]
              · rw [l34_1, den_loop]
                simp (disch := omega) [l34_1, b34_0, go_nil, go_last, go_past, go_pastR, go_blkN, go_blkR, go_blkE, go_skip, go_exit, go_ret, go_scope, go_seq, go_reg, go_regd, go_opdN, go_opd, go_opdG, grdd_b, grdd_u, stpd_some, find_some, go_block, go_cond, cnd_b, go_opsN, go_ops, go_opsG, grd_b, grd_u, stp_some, fin_some, up_some, cont_some, k_call, k_mv, k_pick, k_bin, k_eqB, k_eqA, k_not, k_neg, k_conv, k_alloc, k_boxA, k_boxI, k_boxB, k_boxN, k_boxBs, k_ldR, k_ldA, k_ldI, k_ldB, k_stA, k_stI, k_stB, ldC_some, stC_some, k_mkfn, k_slc, k_slcA, k_ixA, k_ixBs, k_ixSl, k_fadr, k_fld, k_ext, k_len, k_app, k_mn, k_mx, k_nilck, k_build, k_bsl1, k_bsl2, b_add, b_sub, b_mul, b_eql, b_neq, b_lss, b_leq, b_gtr, b_geq, Dn.setLast, Dn.getLast, evalO, mapO, Dn.get, putE, keepE_nil, keepE_cons, kp_some, kp_none, TV.one, TV.isAgg, Dn.part, negb, at0, at1, at2, at3, at4, dT, dF, wrapR_i64, Option.bind_some, Option.map_some, hlen, p1, p2, wn, u1, u2, c62, wk, wk2, hgt, hkl]
            | false =>
              rw [hnr] at c62 hw
              refine .inr ⟨⟨k + 1, by omega, by rw [hw, hb0]; simp⟩, ?_⟩
              generalize ((k + 1 : Nat) : Int) = K1 at *
              rw [l34_1, den_loop]
              simp (disch := omega) [l34_1, b34_0, go_nil, go_last, go_past, go_pastR, go_blkN, go_blkR, go_blkE, go_skip, go_exit, go_ret, go_scope, go_seq, go_reg, go_regd, go_opdN, go_opd, go_opdG, grdd_b, grdd_u, stpd_some, find_some, go_block, go_cond, cnd_b, go_opsN, go_ops, go_opsG, grd_b, grd_u, stp_some, fin_some, up_some, cont_some, k_call, k_mv, k_pick, k_bin, k_eqB, k_eqA, k_not, k_neg, k_conv, k_alloc, k_boxA, k_boxI, k_boxB, k_boxN, k_boxBs, k_ldR, k_ldA, k_ldI, k_ldB, k_stA, k_stI, k_stB, ldC_some, stC_some, k_mkfn, k_slc, k_slcA, k_ixA, k_ixBs, k_ixSl, k_fadr, k_fld, k_ext, k_len, k_app, k_mn, k_mx, k_nilck, k_build, k_bsl1, k_bsl2, b_add, b_sub, b_mul, b_eql, b_neq, b_lss, b_leq, b_gtr, b_geq, Dn.setLast, Dn.getLast, evalO, mapO, Dn.get, putE, keepE_nil, keepE_cons, kp_some, kp_none, TV.one, TV.isAgg, Dn.part, negb, at0, at1, at2, at3, at4, dT, dF, wrapR_i64, Option.bind_some, Option.map_some, hlen, p1, p2, wn, u1, u2, c62, wk, hgt, hkl]
      · refine .inr ⟨⟨i, by omega, by rw [hw, dF q2]; simp⟩, ?_⟩
        rw [l34_1, den_loop]
        simp (disch := omega) [l34_1, b34_0, go_nil, go_last, go_past, go_pastR, go_blkN, go_blkR, go_blkE, go_skip, go_exit, go_ret, go_scope, go_seq, go_reg, go_regd, go_opdN, go_opd, go_opdG, grdd_b, grdd_u, stpd_some, find_some, go_block, go_cond, cnd_b, go_opsN, go_ops, go_opsG, grd_b, grd_u, stp_some, fin_some, up_some, cont_some, k_call, k_mv, k_pick, k_bin, k_eqB, k_eqA, k_not, k_neg, k_conv, k_alloc, k_boxA, k_boxI, k_boxB, k_boxN, k_boxBs, k_ldR, k_ldA, k_ldI, k_ldB, k_stA, k_stI, k_stB, ldC_some, stC_some, k_mkfn, k_slc, k_slcA, k_ixA, k_ixBs, k_ixSl, k_fadr, k_fld, k_ext, k_len, k_app, k_mn, k_mx, k_nilck, k_build, k_bsl1, k_bsl2, b_add, b_sub, b_mul, b_eql, b_neq, b_lss, b_leq, b_gtr, b_geq, Dn.setLast, Dn.getLast, evalO, mapO, Dn.get, putE, keepE_nil, keepE_cons, kp_some, kp_none, TV.one, TV.isAgg, Dn.part, negb, at0, at1, at2, at3, at4, dT, dF, wrapR_i64, Option.bind_some, Option.map_some, hlen, p1, p2, wn]
    · refine .inr ⟨⟨i, by omega, by rw [hw, dF q1]; simp⟩, ?_⟩
      rw [l34_1, den_loop]
      simp (disch := omega) [l34_1, b34_0, go_nil, go_last, go_past, go_pastR, go_blkN, go_blkR, go_blkE, go_skip, go_exit, go_ret, go_scope, go_seq, go_reg, go_regd, go_opdN, go_opd, go_opdG, grdd_b, grdd_u, stpd_some, find_some, go_block, go_cond, cnd_b, go_opsN, go_ops, go_opsG, grd_b, grd_u, stp_some, fin_some, up_some, cont_some, k_call, k_mv, k_pick, k_bin, k_eqB, k_eqA, k_not, k_neg, k_conv, k_alloc, k_boxA, k_boxI, k_boxB, k_boxN, k_boxBs, k_ldR, k_ldA, k_ldI, k_ldB, k_stA, k_stI, k_stB, ldC_some, stC_some, k_mkfn, k_slc, k_slcA, k_ixA, k_ixBs, k_ixSl, k_fadr, k_fld, k_ext, k_len, k_app, k_mn, k_mx, k_nilck, k_build, k_bsl1, k_bsl2, b_add, b_sub, b_mul, b_eql, b_neq, b_lss, b_leq, b_gtr, b_geq, Dn.setLast, Dn.getLast, evalO, mapO, Dn.get, putE, keepE_nil, keepE_cons, kp_some, kp_none, TV.one, TV.isAgg, Dn.part, negb, at0, at1, at2, at3, at4, dT, dF, wrapR_i64, Option.bind_some, Option.map_some, hlen, p1, p2, wn]

/-- whether a list is a way -/
def isWay (r c : Nat) (l : List Int) : Bool := (List.range l.length).all (wayAt r c l) && decide (0 < l.length)

theorem fn34 {pg : Pg} (hF : Free pg) {r c : Nat} (h : Brd r c) {A : TV} {l : List Int} (hA : SV A l) (h64 : l.length ≤ 9223372036854775807) : PFn pg 34 [.i .i64 (r : Int), .i .i64 (c : Int), A] (.b (isWay r c l)) := by
  have hlen := fun K => (hA.view K).lenK K
  refine .inr ⟨hF.S _ _ (by decide), .b (isWay r c l), [], body_of (x := .ret) (e := [(6, .b (isWay r c l))]) (d := d34) (by rw [hF.F]; rfl) rfl ?_ (.inl rfl) rfl, sn_b _ _ _⟩
  rcases l34_all (pg := pg) (H := []) hF h hA h64 l.length 0 (by omega) (fun j hj => by omega) with ⟨k1, e, k2, k3⟩ | ⟨⟨j, j1, j2⟩, k2⟩
  · have hw : isWay r c l = decide ((0 : Int) < (l.length : Int)) := by
      unfold isWay
      rw [List.all_eq_true.2 fun j hj => k1 j (List.mem_range.1 hj), Bool.true_and]
      exact decide_eq_decide.2 (by omega)
    simp only [Int.natCast_zero] at k2
    rw [hw]
    simp [d34, c34, zipE, go_nil, go_last, go_past, go_pastR, go_blkN, go_blkR, go_blkE, go_skip, go_exit, go_ret, go_scope, go_seq, go_reg, go_regd, go_opdN, go_opd, go_opdG, grdd_b, grdd_u, stpd_some, find_some, go_block, go_cond, cnd_b, go_opsN, go_ops, go_opsG, grd_b, grd_u, stp_some, fin_some, up_some, cont_some, k_call, k_mv, k_pick, k_bin, k_eqB, k_eqA, k_not, k_neg, k_conv, k_alloc, k_boxA, k_boxI, k_boxB, k_boxN, k_boxBs, k_ldR, k_ldA, k_ldI, k_ldB, k_stA, k_stI, k_stB, ldC_some, stC_some, k_mkfn, k_slc, k_slcA, k_ixA, k_ixBs, k_ixSl, k_fadr, k_fld, k_ext, k_len, k_app, k_mn, k_mx, k_nilck, k_build, k_bsl1, k_bsl2, b_add, b_sub, b_mul, b_eql, b_neq, b_lss, b_leq, b_gtr, b_geq, Dn.setLast, Dn.getLast, evalO, mapO, Dn.get, putE, keepE, TV.one, TV.isAgg, Dn.part, go_denK (c := l34_1) rfl, k2, k3, hlen]
  · have hw : isWay r c l = false := by
      unfold isWay
      rw [Bool.and_eq_false_iff]
      refine .inl ?_
      rw [List.all_eq_false]
      exact ⟨j, List.mem_range.2 j1, by simp [j2]⟩
    simp only [Int.natCast_zero] at k2
    rw [hw]
    simp (disch := omega) [d34, c34, zipE, go_nil, go_last, go_past, go_pastR, go_blkN, go_blkR, go_blkE, go_skip, go_exit, go_ret, go_scope, go_seq, go_reg, go_regd, go_opdN, go_opd, go_opdG, grdd_b, grdd_u, stpd_some, find_some, go_block, go_cond, cnd_b, go_opsN, go_ops, go_opsG, grd_b, grd_u, stp_some, fin_some, up_some, cont_some, k_call, k_mv, k_pick, k_bin, k_eqB, k_eqA, k_not, k_neg, k_conv, k_alloc, k_boxA, k_boxI, k_boxB, k_boxN, k_boxBs, k_ldR, k_ldA, k_ldI, k_ldB, k_stA, k_stI, k_stB, ldC_some, stC_some, k_mkfn, k_slc, k_slcA, k_ixA, k_ixBs, k_ixSl, k_fadr, k_fld, k_ext, k_len, k_app, k_mn, k_mx, k_nilck, k_build, k_bsl1, k_bsl2, b_add, b_sub, b_mul, b_eql, b_neq, b_lss, b_leq, b_gtr, b_geq, Dn.setLast, Dn.getLast, evalO, mapO, Dn.get, putE, keepE_nil, keepE_cons, kp_some, kp_none, TV.one, TV.isAgg, Dn.part, negb, at0, at1, at2, at3, at4, dT, dF, wrapR_i64, Option.bind_some, Option.map_some, go_denK (c := l34_1) rfl, k2]

/-! the program's way -/
def wy (r c a : Nat) : Nat → Nat → List Nat
  | 0, b => [b]
  | m + 1, b => wy r c a m (back r c a m b) ++ [b]

theorem wy_len (r c a : Nat) : ∀ m b, (wy r c a m b).length = m + 1
  | 0, _ => rfl
  | m + 1, b => by rw [wy, List.length_append, wy_len r c a m]; rfl

theorem wy_backs (r c a : Nat) : ∀ (m b : Nat), ([(b : Int)] ++ backs r c a m b).reverse = nI (wy r c a m b)
  | 0, b => rfl
  | m + 1, b => by
    have := wy_backs r c a m (back r c a m b)
    rw [wy, backs]
    simp only [List.singleton_append, List.reverse_cons] at this ⊢
    rw [this]
    simp [nI]

theorem wy_ok {r c a : Nat} (h : Brd r c) (ha : a < r * c) : ∀ (m b : Nat), b < r * c → (front r c a m).testBit b = true →
    (wy r c a m b)[0]? = some a ∧ (wy r c a m b)[m]? = some b ∧ (∀ x, x ∈ wy r c a m b → x < r * c) ∧ ∀ i x y, (wy r c a m b)[i]? = some x → (wy r c a m b)[i + 1]? = some y → near c x y = true
  | 0, b, hb, hf => by
    have : (2 ^ a).testBit b = true := hf
    rw [Nat.testBit_two_pow, decide_eq_true_eq] at this
    subst this
    exact ⟨rfl, rfl, by simp [wy, hb], fun i x y _ h2 => by simp [wy] at h2⟩
  | m + 1, b, hb, hf => by
    obtain ⟨b1, b2⟩ := back_in h ha hb hf
    have hpos := meet_pos h ha hb hf
    have hn := h.n36
    have hlt : front r c a m &&& mv r c b < 18446744073709551616 := Nat.lt_of_le_of_lt Nat.and_le_right (Nat.lt_of_lt_of_le (mv_bound h hb) (lv64 h))
    have hbit := ctz_bit hpos hlt
    rw [Nat.testBit_and, Bool.and_eq_true] at hbit
    have hnear : near c (back r c a m b) b = true := by
      rw [near_comm, ← mv_near h hb b2]; exact hbit.2
    obtain ⟨i1, i2, i3, i4⟩ := wy_ok h ha m (back r c a m b) b2 b1
    have hl := wy_len r c a m (back r c a m b)
    refine ⟨?_, ?_, ?_, ?_⟩
    · rw [wy, List.getElem?_append_left (by omega)]; exact i1
    · rw [wy, List.getElem?_append_right (by omega), hl]; simp
    · intro x hx
      rw [wy, List.mem_append, List.mem_singleton] at hx
      rcases hx with hx | rfl
      · exact i3 x hx
      · exact hb
    · intro i x y hx hy
      rw [wy] at hx hy
      by_cases hi : i + 1 < m + 1
      · rw [List.getElem?_append_left (by omega)] at hx hy
        exact i4 i x y hx hy
      · have hi2 : i + 1 = m + 1 := by
          have := (List.getElem?_eq_some_iff.1 hy).1
          simp [hl] at this
          omega
        have hi3 : i = m := by omega
        subst hi3
        rw [List.getElem?_append_left (by omega), i2] at hx
        rw [List.getElem?_append_right (by omega), hl, Nat.sub_self] at hy
        simp at hx hy
        subst hx hy
        exact hnear

theorem wy_way {r c a m b : Nat} (h : Brd r c) (ha : a < r * c) (hb : b < r * c) (hf : (front r c a m).testBit b = true) : isWay r c (nI (wy r c a m b)) = true := by
  obtain ⟨i1, i2, i3, i4⟩ := wy_ok h ha m b hb hf
  have hl := wy_len r c a m b
  unfold isWay
  rw [Bool.and_eq_true, nI_len, hl]
  refine ⟨List.all_eq_true.2 fun j hj => ?_, by simp⟩
  rw [List.mem_range] at hj
  have gd : ∀ k, k < m + 1 → ∃ x, (wy r c a m b)[k]? = some x ∧ (nI (wy r c a m b)).getD k 0 = (x : Int) := fun k hk => by
    have hx : (wy r c a m b)[k]? = some (wy r c a m b)[k] := List.getElem?_eq_getElem (by omega)
    exact ⟨_, hx, by rw [List.getD_eq_getElem?_getD, nI_at hx]; rfl⟩
  obtain ⟨x, x1, x2⟩ := gd j hj
  have hxr := i3 x (List.mem_of_getElem? x1)
  unfold wayAt
  rw [x2, dT (by omega), dT (by omega)]
  by_cases h0 : j = 0
  · subst h0; rfl
  · obtain ⟨y, y1, y2⟩ := gd (j - 1) (by omega)
    rw [y2]
    simp only [Int.toNat_natCast, Bool.true_and, Bool.or_eq_true]
    exact .inr (i4 (j - 1) y x y1 (by rw [show j - 1 + 1 = j by omega]; exact x1))

end Go.Proofs.Tryd.Dn

/-
  Knight: the law of moves, run.
-/

namespace Go.Proofs.Tryd.Dn
open Go.Dn

theorem none_at {r c a b N : Nat} (h : Brd r c) (ha : a < r * c) (hb : b < r * c) (hz : front r c a N = 0) (hno : ∀ k, k < N → (front r c a k).testBit b = false) (m : Nat) : (front r c a m).testBit b = false := by
  cases hm : (front r c a m).testBit b with
  | false => rfl
  | true =>
    have h1 := front_walks h ha m b hb hm
    have h2 := no_steps h ha hb hz hno m
    omega

theorem fn30 {pg : Pg} (hF : Free pg) {r c a b : Nat} (h : Brd r c) (ha : a < r * c) (hb : b < r * c) :
    (∃ m : Nat, PFn pg 30 [.i .i64 (r : Int), .i .i64 (c : Int), .i .i64 (a : Int), .i .i64 (b : Int)] (.tup [elI.lt false (nI (wy r c a m b)), .b true, .i .i64 0]) ∧ (front r c a m).testBit b = true) ∨
    (PFn pg 30 [.i .i64 (r : Int), .i .i64 (c : Int), .i .i64 (a : Int), .i .i64 (b : Int)] (.tup [.nilsl, .b false, .i .i64 0]) ∧ ∀ m, (front r c a m).testBit b = false) := by
  have hn := h.n36
  obtain ⟨H0, hH0⟩ : ∃ H0 : Heap, H0 = [.cells [.i .i64 (a : Int), .i .i64 (b : Int)] false] := ⟨_, rfl⟩
  have hv : elI.View H0 (.sl 0 0 1 false 2 (some 2)) [(a : Int), (b : Int)] := by rw [hH0]; exact two_view [] _ _
  obtain ⟨H1, h1, h2, h3, h4⟩ := body59 hF h hv (by simp)
  have hno : [(a : Int), (b : Int)].any (outB ((r * c : Nat) : Int)) = false := by rw [List.any_cons, List.any_cons, inB ha, inB hb]; rfl
  have hl0 : H0.length = 1 := by rw [hH0]; rfl
  rw [hno, hl0] at h1
  rw [hl0] at h2 h3
  simp only [Bool.false_eq_true, if_false] at h1
  have hd : pg.F 30 = some d30 := by rw [hF.F]; rfl
  have kb : dkc pg (den pg) (.bsl false [.i .i64 0] false 2 [0, 1]) [.i .i64 (a : Int), .i .i64 (b : Int)] [] = some (.sl 0 0 1 false 2 (some 2), H0) := by rw [k_bsl2, hH0]; rfl
  have hsn : snap .borrow H1 9 (.ref 1 0) = some (.bp true (.agg (bM r c))) := by
    have hm : mapO (snap .borrow H1 8) (bM r c) = some (bM r c) := mapO_self fun x hx => by obtain ⟨k, n, rfl⟩ := bM_int hx; exact sn8_i _ _ _ _
    rw [snap]
    simp [h2, hm]
  rcases fn65 hF (bo := true) h ha hb with ⟨m, ws, p1, p2, p3, p4, p5⟩ | ⟨m, p2, p3, p4⟩
  · have c65 := PFn.call p2 (args := [.ref 1 0, .i .i64 (a : Int), .i .i64 (b : Int)]) (ks := []) (fs := []) (cs := []) (H := H1) (by simp [snapArgs, sn_i, hsn])
    rw [p5, wy_backs] at c65
    have hne : dkc pg (den pg) (.eqN 0 true) [elI.lt false (nI (wy r c a m b)), .nilsl] H1 = some (.b true, H1) := by
      have hl := wy_len r c a m b
      match hw : wy r c a m b, hl with
      | x :: l, _ => rfl
    have hs : mapO (snap .fin H1 8) [elI.lt false (nI (wy r c a m b)), .b true, .i .i64 0] = some [elI.lt false (nI (wy r c a m b)), .b true, .i .i64 0] := by
      have : snap .fin H1 8 (elI.lt false (nI (wy r c a m b))) = some (elI.lt false (nI (wy r c a m b))) := snap_intsF H1 6 _
      simp [mapO, this, sn8_i, sn8_b]
    refine .inl ⟨m, .of2 (x := .ret) (e := [(8, elI.lt false (nI (wy r c a m b))), (9, .b true), (10, .i .i64 0)]) (H' := H1) (hF.S _ _ (by decide)) hd rfl ?_ (.inl rfl) rfl (by simp) hs, p3⟩
    generalize elI.lt false (nI (wy r c a m b)) = LL at *
    simp (disch := omega) [d30, c30, zipE, go_nil, go_last, go_past, go_pastR, go_blkN, go_blkR, go_blkE, go_skip, go_exit, go_ret, go_scope, go_seq, go_reg, go_regd, go_opdN, go_opd, go_opdG, grdd_b, grdd_u, stpd_some, find_some, go_block, go_cond, cnd_b, go_opsN, go_ops, go_opsG, grd_b, grd_u, stp_some, fin_some, up_some, cont_some, k_call, k_mv, k_pick, k_bin, k_eqB, k_eqA, k_not, k_neg, k_conv, k_alloc, k_boxA, k_boxI, k_boxB, k_boxN, k_boxBs, k_ldR, k_ldA, k_ldI, k_ldB, k_stA, k_stI, k_stB, ldC_some, stC_some, k_mkfn, k_slc, k_slcA, k_ixA, k_ixBs, k_ixSl, k_fadr, k_fld, k_ext, k_len, k_app, k_mn, k_mx, k_nilck, k_build, k_bsl1, k_bsl2, b_add, b_sub, b_mul, b_eql, b_neq, b_lss, b_leq, b_gtr, b_geq, Dn.setLast, Dn.getLast, evalO, mapO, Dn.get, putE, keepE_nil, keepE_cons, kp_some, kp_none, TV.one, TV.isAgg, Dn.part, negb, at0, at1, at2, at3, at4, dT, dF, wrapR_i64, Option.bind_some, Option.map_some, kb, sh_fn, h1, c65, hne]
  · have c65 := PFn.call p2 (args := [.ref 1 0, .i .i64 (a : Int), .i .i64 (b : Int)]) (ks := []) (fs := []) (cs := []) (H := H1) (by simp [snapArgs, sn_i, hsn])
    refine .inr ⟨.of2 (x := .ret) (e := [(8, .nilsl), (9, .b false), (10, .i .i64 0)]) (H' := H1) (hF.S _ _ (by decide)) hd rfl ?_ (.inl rfl) rfl (by simp) (by simp [sn_i, sn_b, sn_nil, sn8_i, sn8_b, sn8_nil, sn7_i, sn7_b, sn_sl, sn8_sl, slB_some, sn_tup, sn_agg, sn8_agg, mapO, elems]), none_at h ha hb p3 p4⟩
    have hen : dkc pg (den pg) (.eqN 0 true) [.nilsl, .nilsl] H1 = some (.b false, H1) := rfl
    simp (disch := omega) [d30, c30, zipE, go_nil, go_last, go_past, go_pastR, go_blkN, go_blkR, go_blkE, go_skip, go_exit, go_ret, go_scope, go_seq, go_reg, go_regd, go_opdN, go_opd, go_opdG, grdd_b, grdd_u, stpd_some, find_some, go_block, go_cond, cnd_b, go_opsN, go_ops, go_opsG, grd_b, grd_u, stp_some, fin_some, up_some, cont_some, k_call, k_mv, k_pick, k_bin, k_eqB, k_eqA, k_not, k_neg, k_conv, k_alloc, k_boxA, k_boxI, k_boxB, k_boxN, k_boxBs, k_ldR, k_ldA, k_ldI, k_ldB, k_stA, k_stI, k_stB, ldC_some, stC_some, k_mkfn, k_slc, k_slcA, k_ixA, k_ixBs, k_ixSl, k_fadr, k_fld, k_ext, k_len, k_app, k_mn, k_mx, k_nilck, k_build, k_bsl1, k_bsl2, b_add, b_sub, b_mul, b_eql, b_neq, b_lss, b_leq, b_gtr, b_geq, Dn.setLast, Dn.getLast, evalO, mapO, Dn.get, putE, keepE_nil, keepE_cons, kp_some, kp_none, TV.one, TV.isAgg, Dn.part, negb, at0, at1, at2, at3, at4, dT, dF, wrapR_i64, Option.bind_some, Option.map_some, kb, sh_fn, h1, c65, hen]

/-- a call of a function of values, as code meets it -/
theorem PFn.at {pg : Pg} {f : Nat} {xs : List TV} {r : TV} (h : PFn pg f xs r) (hs : ∀ H, snapArgs H [] xs = some xs) (H : Heap) : callRun pg (den pg) (.pu []) (.fn f [] [] :: xs) H = some (r, H) :=
  PFn.call h (args := xs) (ks := []) (fs := []) (cs := []) (H := H) (by rw [List.nil_append, List.append_nil]; exact hs H)

theorem sa_I {H : Heap} {k : IntKind} {n : Int} {l : List TV} (h : snapArgs H [] l = some l) : snapArgs H [] (.i k n :: l) = some (.i k n :: l) := by
  simp [snapArgs, sn_i, h]
theorem sa_0 {H : Heap} : snapArgs H [] [] = some [] := rfl

set_option maxRecDepth 100000 in
theorem run6 {pg : Pg} (hF : Free pg) (h25 : PFn pg 25 [] (.b true)) (x y u v : Int) : ∃ H, bodyRun pg (den pg) 6 [.i .i64 x, .i .i64 y, .agg [.i .i64 u, .i .i64 v]] [] = some (.b true, H) := by
  obtain ⟨r, c, h, c18⟩ := call18 hF x y
  have hn := h.n36
  have h1 : 1 ≤ r * c := Nat.mul_pos h.r1 h.c1
  obtain ⟨hcast, wn⟩ := rc_facts h
  obtain ⟨wa, a, a1, a2, a3, a4⟩ := conv_rem u h1 hn
  obtain ⟨wb, b, b1, b2, b3, b4⟩ := conv_rem v h1 hn
  have un := wrap_un hn
  rw [hcast] at un a2 b2
  have c25 := fun H => PFn.call h25 (args := []) (ks := []) (fs := []) (cs := []) (H := H) (by simp [snapArgs])
  obtain ⟨H0, hH0⟩ : ∃ H0 : Heap, H0 = [.cells [.i .i64 u, .i .i64 v] true] := ⟨_, rfl⟩
  have bx : dkc pg (den pg) (.box true) [.agg [.i .i64 u, .i .i64 v]] [] = some (.ref 0 0, H0) := by
    rw [k_boxA _ _ (by rfl), hH0]; rfl
  have x0 : dkc pg (den pg) (.ixA 2 1 false) [.ref 0 0, .i .i64 0] H0 = some (.ref 0 0, H0) := by rw [hH0]; rfl
  have x1 : dkc pg (den pg) (.ixA 2 1 false) [.ref 0 0, .i .i64 1] H0 = some (.ref 0 1, H0) := by rw [hH0]; rfl
  have y0 : dkc pg (den pg) (.ld 1 false) [.ref 0 0] H0 = some (.i .i64 u, H0) := by rw [hH0]; rfl
  have y1 : dkc pg (den pg) (.ld 1 false) [.ref 0 1] H0 = some (.i .i64 v, H0) := by rw [hH0]; rfl
  have c28 := PFn.at (fn28 hF h a3) (fun H => sa_I (sa_I (sa_I sa_0)))
  have c33 := PFn.at (fn33 hF h a3) (fun H => sa_I (sa_I (sa_I sa_0)))
  rw [movesOf_movR h a3] at c28
  have hml : (nI (movR r c a)).length ≤ 9223372036854775807 := by rw [nI_len]; have := movR_len r c a; omega
  have c32 := PFn.at (fn32 hF (SV.lt true (nI (movR r c a))) (SV.lt true (nI (movR r c a))) hml hml)
  have c32' : ∀ H, callRun pg (den pg) (.pu []) [.fn 32 [] [], elI.lt false (nI (movR r c a)), elI.lt false (nI (movR r c a))] H = some (.b true, H) := fun H => by
    have f32 := fn32 hF (SV.lt true (nI (movR r c a))) (SV.lt true (nI (movR r c a))) hml hml
    rw [dT rfl] at f32
    have hs := snap_ints false H 7 (nI (movR r c a))
    have := PFn.call f32 (args := [elI.lt false (nI (movR r c a)), elI.lt false (nI (movR r c a))]) (ks := []) (fs := []) (cs := []) (H := H) (by simp [snapArgs, hs])
    exact this
  obtain ⟨o, ⟨so1, so2⟩, f31⟩ := fn31 hF h a3
  have c31 := PFn.at f31 (fun H => sa_I (sa_I (sa_I sa_0)))
  obtain ⟨OT, hOT⟩ : ∃ OT : TV, OT = .bs false 1 (o.map elI.val) := ⟨_, rfl⟩
  rw [← hOT] at c31
  have hOV : SV OT o := .inr ⟨false, hOT⟩
  obtain ⟨op, o1, o2⟩ := ixI (pg := pg) (R := den pg) (hOV.view H0) (getD_some (l := o) (x := b) (by omega))
  refine ⟨H0, body_of (x := .ret) (e := [(6, .b true)]) (d := d6) (by rw [hF.F]; rfl) rfl ?_ (.inl rfl) rfl⟩
  rcases so2 b b3 with ⟨m, s1, s2⟩ | ⟨s1, s2⟩
  · rw [s2] at o2
    rcases fn29 hF h a3 b3 with ⟨m', p29, q2, q3, q4⟩ | ⟨m', p29, q2, q3⟩
    · obtain rfl := front_uniq h a3 s1 q2
      rcases fn30 hF h a3 b3 with ⟨m', p30, q5⟩ | ⟨p30, q5⟩
      · obtain rfl := front_uniq h a3 s1 q5
        have c29 := PFn.at p29 (fun H => sa_I (sa_I (sa_I (sa_I sa_0))))
        have c30 := PFn.at p30 (fun H => sa_I (sa_I (sa_I (sa_I sa_0))))
        have hl := wy_len r c a m b
        obtain ⟨i1, i2, _, _⟩ := wy_ok h a3 m b b3 s1
        have f34 := fn34 hF h (SV.lt true (nI (wy r c a m b))) (by rw [nI_len]; omega)
        rw [wy_way h a3 b3 s1] at f34
        have c34 : ∀ H, callRun pg (den pg) (.pu []) [.fn 34 [] [], .i .i64 (r : Int), .i .i64 (c : Int), elI.lt false (nI (wy r c a m b))] H = some (.b true, H) := fun H => by
          have hs := snap_ints false H 7 (nI (wy r c a m b))
          exact PFn.call f34 (args := [.i .i64 (r : Int), .i .i64 (c : Int), elI.lt false (nI (wy r c a m b))]) (ks := []) (fs := []) (cs := []) (H := H) (by simp [snapArgs, sn_i, hs])
        obtain ⟨pa, w1, w2⟩ := ixI (pg := pg) (R := den pg) (El.lt_view (E := elI) false (nI (wy r c a m b)) H0) (nI_at i1)
        obtain ⟨pb, w3, w4⟩ := ixI (pg := pg) (R := den pg) (El.lt_view (E := elI) false (nI (wy r c a m b)) H0) (nI_at i2)
        have hlen := fun K => El.lt_len (E := elI) false (nI (wy r c a m b)) K
        rw [nI_len, hl] at hlen
        simp only [Int.natCast_zero] at w1
        generalize elI.lt false (nI (wy r c a m b)) = WW at *
        generalize elI.lt false (nI (movR r c a)) = LL at *
        simp (disch := omega) [d6, c6, zipE, go_nil, go_last, go_past, go_pastR, go_blkN, go_blkR, go_blkE, go_skip, go_exit, go_ret, go_scope, go_seq, go_reg, go_regd, go_opdN, go_opd, go_opdG, grdd_b, grdd_u, stpd_some, find_some, go_block, go_cond, cnd_b, go_opsN, go_ops, go_opsG, grd_b, grd_u, stp_some, fin_some, up_some, cont_some, k_call, k_mv, k_pick, k_bin, k_eqB, k_eqA, k_not, k_neg, k_conv, k_alloc, k_boxA, k_boxI, k_boxB, k_boxN, k_boxBs, k_ldR, k_ldA, k_ldI, k_ldB, k_stA, k_stI, k_stB, ldC_some, stC_some, k_mkfn, k_slc, k_slcA, k_ixA, k_ixBs, k_ixSl, k_fadr, k_fld, k_ext, k_len, k_app, k_mn, k_mx, k_nilck, k_build, k_bsl1, k_bsl2, b_add, b_sub, b_mul, b_eql, b_neq, b_lss, b_leq, b_gtr, b_geq, Dn.setLast, Dn.getLast, evalO, mapO, Dn.get, putE, keepE_nil, keepE_cons, kp_some, kp_none, TV.one, TV.isAgg, Dn.part, negb, at0, at1, at2, at3, at4, dT, dF, wrapR_i64, Option.bind_some, Option.map_some, bx, x0, x1, y0, y1, c18, wn, a1, a2, a4, b1, b2, b4, un, c28, c29, c30, c31, o1, o2, c33, c32', c34, w1, w2, w3, w4, hlen, c25, negb]
      · rw [q5 m] at s1; cases s1
    · have := none_at h a3 b3 q2 q3 m
      rw [this] at s1; cases s1
  · rw [s2] at o2
    rcases fn29 hF h a3 b3 with ⟨m', p29, q2, q3, q4⟩ | ⟨m', p29, q2, q3⟩
    · rw [s1 m'] at q2; cases q2
    · rcases fn30 hF h a3 b3 with ⟨m', p30, q5⟩ | ⟨p30, q5⟩
      · rw [s1 m'] at q5; cases q5
      · have c29 := PFn.at p29 (fun H => sa_I (sa_I (sa_I (sa_I sa_0))))
        have c30 := PFn.at p30 (fun H => sa_I (sa_I (sa_I (sa_I sa_0))))
        have hln : ∀ K, lenK 0 .nilsl K = some 0 := fun K => rfl
        generalize elI.lt false (nI (movR r c a)) = LL at *
        simp (disch := omega) [d6, c6, zipE, go_nil, go_last, go_past, go_pastR, go_blkN, go_blkR, go_blkE, go_skip, go_exit, go_ret, go_scope, go_seq, go_reg, go_regd, go_opdN, go_opd, go_opdG, grdd_b, grdd_u, stpd_some, find_some, go_block, go_cond, cnd_b, go_opsN, go_ops, go_opsG, grd_b, grd_u, stp_some, fin_some, up_some, cont_some, k_call, k_mv, k_pick, k_bin, k_eqB, k_eqA, k_not, k_neg, k_conv, k_alloc, k_boxA, k_boxI, k_boxB, k_boxN, k_boxBs, k_ldR, k_ldA, k_ldI, k_ldB, k_stA, k_stI, k_stB, ldC_some, stC_some, k_mkfn, k_slc, k_slcA, k_ixA, k_ixBs, k_ixSl, k_fadr, k_fld, k_ext, k_len, k_app, k_mn, k_mx, k_nilck, k_build, k_bsl1, k_bsl2, b_add, b_sub, b_mul, b_eql, b_neq, b_lss, b_leq, b_gtr, b_geq, Dn.setLast, Dn.getLast, evalO, mapO, Dn.get, putE, keepE_nil, keepE_cons, kp_some, kp_none, TV.one, TV.isAgg, Dn.part, negb, at0, at1, at2, at3, at4, dT, dF, wrapR_i64, Option.bind_some, Option.map_some, bx, x0, x1, y0, y1, c18, wn, a1, a2, a4, b1, b2, b4, un, c28, c29, c30, c31, o1, o2, c33, c32', hln, c25, negb]

end Go.Proofs.Tryd.Dn

