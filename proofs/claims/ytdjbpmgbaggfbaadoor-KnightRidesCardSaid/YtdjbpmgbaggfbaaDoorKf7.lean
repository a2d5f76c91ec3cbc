/-
  Knight: ways, in plain terms and in the program; the reference's looks at them.
-/
import Derived.Test.YtdjbpmgbaggfbaaDoorKf6
import Derived.Test.YtdjbpmgbaggfbaaDoorKf5
import Derived.Test.YtdjbpmgbaggfbaaDoorDd
import Derived.Test.YtdjbpmgbaggfbaaDoorKf
set_option linter.unusedSimpArgs false
set_option linter.unusedVariables false

namespace Go.Proofs.Tryd.Dn
open Go.Dn

/-! the reference's least numbers of steps -/
def StepsOk (r c a : Nat) (o : List Int) : Prop := o.length = r * c ∧
  ∀ b, b < r * c → (∃ m : Nat, (front r c a m).testBit b = true ∧ o.getD b 0 = (m : Int)) ∨ ((∀ m, (front r c a m).testBit b = false) ∧ o.getD b 0 = -1)

theorem fn31 {pg : Pg} (hF : Free pg) {r c a : Nat} (h : Brd r c) (ha : a < r * c) : ∃ o, StepsOk r c a o ∧ PFn pg 31 [.i .i64 (r : Int), .i .i64 (c : Int), .i .i64 (a : Int)] (.bs false 1 (o.map elI.val)) := by
  have hn := h.n36
  obtain ⟨hcast, wn⟩ := rc_facts h
  have hmk := k_mksl (pg := pg) (R := den pg) [.i .i64 0] false 8 .i64 .i64 (r * c) [] (by omega) (by omega)
  have harr := El.arr_mksl elI [] 0 (r * c)
  have hmk' : dkc pg (den pg) (.mksl [.i .i64 0] false 8) [.i .i64 ((r : Int) * c), .i .i64 ((r : Int) * c)] [] = some (.sl 0 0 1 false (r * c) (some (r * c)), [] ++ [.cells (repl (elI.enc 0) (r * c)) false]) := by rw [← hcast]; exact hmk
  obtain ⟨H0, hH0⟩ : ∃ H0 : Heap, H0 = [] ++ [.cells (repl (elI.enc 0) (r * c)) false] := ⟨_, rfl⟩
  obtain ⟨O, hO⟩ : ∃ O : TV, O = .sl 0 0 1 false (r * c) (some (r * c)) := ⟨_, rfl⟩
  have harr' : elI.Arr H0 O (List.replicate 0 (-1) ++ List.replicate (r * c) 0) := by
    have e0 : List.replicate 0 (-1 : Int) ++ List.replicate (r * c) 0 = List.replicate (r * c) 0 := by simp
    rw [e0, hH0, hO]; exact harr
  rw [← hO, ← hH0] at hmk'
  have hOid : O.idOf = some 0 := by rw [hO]; rfl
  obtain ⟨e1, H1, p1, p2, p3, p4⟩ := l31_1_all (pg := pg) hF h (A := .i .i64 (a : Int)) (r * c) 0 H0 (by omega) harr'
  simp only [Int.natCast_zero] at p1
  have g0 := keep_get p2 (s := 0) (by simp) rfl
  have g1 := keep_get p2 (s := 1) (by simp) rfl
  have g2 := keep_get p2 (s := 2) (by simp) rfl
  have g7 := keep_get p2 (s := 7) (by simp) rfl
  obtain ⟨id, o, a0, a1, a2, a3⟩ := arrI (pg := pg) (R := den pg) p3 (i := a) (x := -1) (by rw [List.getElem?_replicate, if_pos ha])
  obtain ⟨H2, s1, s2, s3, s4⟩ := a3 0
  obtain ⟨H3, hH3⟩ : ∃ H3 : Heap, H3 = H2 ++ [.cells [.i .i64 (a : Int)] false] := ⟨_, rfl⟩
  have hl2 : 1 ≤ H2.length := by have := p3.lt 0 hOid; omega
  have hBM : BM H3 O (.sl H2.length 0 1 false 1 (some 1)) ((List.replicate (r * c) (-1 : Int)).set a 0) [a] := by
    refine ⟨s2.mono fun j hj => by rw [hH3, List.getElem?_append_left (s2.lt j hj)], ⟨H2.length, 0, some 1, [.i .i64 (a : Int)], false, rfl, by rw [hH3]; exact getLast _ _, by simp [nI], by simp [nI], fun k hk => by cases hk; simp [nI]⟩, ?_⟩
    rw [hOid]
    intro he
    have : (0 : Nat) = H2.length := Option.some.inj he
    omega
  obtain ⟨e2, H4, o', q1, q2, q3, q4, q5⟩ := l31_5_all (pg := pg) hF h ha (r * c) 0 _ [a] O _ H3 (by omega) (by simp) (BInv.start h ha) hBM
  simp only [Int.natCast_zero] at q1
  refine ⟨o', ⟨q4, q5⟩, .inr ⟨hF.S _ _ (by decide), O, H4, body_of (x := .ret) (e := [(6, O)]) (d := d31) (by rw [hF.F]; rfl) rfl ?_ (.inl rfl) rfl, ?_⟩⟩
  · simp (disch := omega) [d31, c31, zipE, go_nil, go_last, go_past, go_pastR, go_blkN, go_blkR, go_blkE, go_skip, go_exit, go_ret, go_scope, go_seq, go_reg, go_regd, go_opdN, go_opd, go_opdG, grdd_b, grdd_u, stpd_some, find_some, go_block, go_cond, cnd_b, go_opsN, go_ops, go_opsG, grd_b, grd_u, stp_some, fin_some, up_some, cont_some, k_call, k_mv, k_pick, k_bin, k_eqB, k_eqA, k_not, k_neg, k_conv, k_alloc, k_boxA, k_boxI, k_boxB, k_boxN, k_boxBs, k_ldR, k_ldA, k_ldI, k_ldB, k_stA, k_stI, k_stB, ldC_some, stC_some, k_mkfn, k_slc, k_slcA, k_ixA, k_ixBs, k_ixSl, k_fadr, k_fld, k_ext, k_len, k_app, k_mn, k_mx, k_nilck, k_build, k_bsl1, k_bsl2, b_add, b_sub, b_mul, b_eql, b_neq, b_lss, b_leq, b_gtr, b_geq, Dn.setLast, Dn.getLast, evalO, mapO, Dn.get, putE, keepE_nil, keepE_cons, kp_some, kp_none, TV.one, TV.isAgg, Dn.part, negb, at0, at1, at2, at3, at4, dT, dF, wrapR_i64, Option.bind_some, Option.map_some, wn, hmk', go_denK (c := l31_1) rfl, p1, g0, g1, g2, g7, a1, s1, ← hH3, go_denK (c := l31_5) rfl, q1, q2]
  · exact q3.to (m := .fin) (E' := elI) (by decide) rfl (mapO_map fun a _ => snS_i _ _ _ _ _)

/-! two lists compared -/
theorem l32_all {pg : Pg} {A B : TV} {la lb : List Int} (hA : SV A la) (hB : SV B lb) (hl : la.length = lb.length) (h64 : la.length ≤ 9223372036854775807) {H : Heap} : ∀ (d i : Nat), i + d = la.length →
    (la.drop i = lb.drop i ∧ ∃ e, den pg l32_1 [(0, A), (1, B), (5, .i .i64 (i : Int))] H = some ⟨.exit 0, e, H⟩) ∨ (la.drop i ≠ lb.drop i ∧ den pg l32_1 [(0, A), (1, B), (5, .i .i64 (i : Int))] H = some ⟨.ret, [(4, .b false)], H⟩)
  | 0, i, hd => by
    have hlen := fun K => (hA.view K).lenK K
    refine .inl ⟨by rw [List.drop_eq_nil_of_le (by omega), List.drop_eq_nil_of_le (by omega)], _, by
      rw [l32_1, den_loop]
      simp (disch := omega) [b32_0, go_nil, go_last, go_past, go_pastR, go_blkN, go_blkR, go_blkE, go_skip, go_exit, go_ret, go_scope, go_seq, go_reg, go_regd, go_opdN, go_opd, go_opdG, grdd_b, grdd_u, stpd_some, find_some, go_block, go_cond, cnd_b, go_opsN, go_ops, go_opsG, grd_b, grd_u, stp_some, fin_some, up_some, cont_some, k_call, k_mv, k_pick, k_bin, k_eqB, k_eqA, k_not, k_neg, k_conv, k_alloc, k_boxA, k_boxI, k_boxB, k_boxN, k_boxBs, k_ldR, k_ldA, k_ldI, k_ldB, k_stA, k_stI, k_stB, ldC_some, stC_some, k_mkfn, k_slc, k_slcA, k_ixA, k_ixBs, k_ixSl, k_fadr, k_fld, k_ext, k_len, k_app, k_mn, k_mx, k_nilck, k_build, k_bsl1, k_bsl2, b_add, b_sub, b_mul, b_eql, b_neq, b_lss, b_leq, b_gtr, b_geq, Dn.setLast, Dn.getLast, evalO, mapO, Dn.get, putE, keepE_nil, keepE_cons, kp_some, kp_none, TV.one, TV.isAgg, Dn.part, negb, at0, at1, at2, at3, at4, dT, dF, wrapR_i64, Option.bind_some, Option.map_some, hlen]
      rfl⟩
  | d + 1, i, hd => by
    have hlen := fun K => (hA.view K).lenK K
    have hx : la[i]? = some la[i] := List.getElem?_eq_getElem (by omega)
    have hy : lb[i]? = some lb[i] := List.getElem?_eq_getElem (by omega)
    have da : la.drop i = la[i] :: la.drop (i + 1) := List.drop_eq_getElem_cons (by omega)
    have db : lb.drop i = lb[i] :: lb.drop (i + 1) := List.drop_eq_getElem_cons (by omega)
    rw [da, db]
    generalize la[i] = x at *
    generalize lb[i] = y at *
    obtain ⟨p, p1, p2⟩ := ixI (pg := pg) (R := den pg) (hA.view H) hx
    obtain ⟨q, q1, q2⟩ := ixI (pg := pg) (R := den pg) (hB.view H) hy
    by_cases hxy : x = y
    · subst hxy
      rcases l32_all (pg := pg) (H := H) hA hB hl h64 d (i + 1) (by omega) with ⟨h1, e, h2⟩ | ⟨h1, h2⟩
      · refine .inl ⟨by rw [h1], e, Eq.trans ?_ h2⟩
        rw [l32_1, den_loop]
        simp (disch := omega) [l32_1, b32_0, go_nil, go_last, go_past, go_pastR, go_blkN, go_blkR, go_blkE, go_skip, go_exit, go_ret, go_scope, go_seq, go_reg, go_regd, go_opdN, go_opd, go_opdG, grdd_b, grdd_u, stpd_some, find_some, go_block, go_cond, cnd_b, go_opsN, go_ops, go_opsG, grd_b, grd_u, stp_some, fin_some, up_some, cont_some, k_call, k_mv, k_pick, k_bin, k_eqB, k_eqA, k_not, k_neg, k_conv, k_alloc, k_boxA, k_boxI, k_boxB, k_boxN, k_boxBs, k_ldR, k_ldA, k_ldI, k_ldB, k_stA, k_stI, k_stB, ldC_some, stC_some, k_mkfn, k_slc, k_slcA, k_ixA, k_ixBs, k_ixSl, k_fadr, k_fld, k_ext, k_len, k_app, k_mn, k_mx, k_nilck, k_build, k_bsl1, k_bsl2, b_add, b_sub, b_mul, b_eql, b_neq, b_lss, b_leq, b_gtr, b_geq, Dn.setLast, Dn.getLast, evalO, mapO, Dn.get, putE, keepE_nil, keepE_cons, kp_some, kp_none, TV.one, TV.isAgg, Dn.part, negb, at0, at1, at2, at3, at4, dT, dF, wrapR_i64, Option.bind_some, Option.map_some, hlen, p1, p2, q1, q2]
      · refine .inr ⟨by simpa using h1, Eq.trans ?_ h2⟩
        rw [l32_1, den_loop]
        simp (disch := omega) [l32_1, b32_0, go_nil, go_last, go_past, go_pastR, go_blkN, go_blkR, go_blkE, go_skip, go_exit, go_ret, go_scope, go_seq, go_reg, go_regd, go_opdN, go_opd, go_opdG, grdd_b, grdd_u, stpd_some, find_some, go_block, go_cond, cnd_b, go_opsN, go_ops, go_opsG, grd_b, grd_u, stp_some, fin_some, up_some, cont_some, k_call, k_mv, k_pick, k_bin, k_eqB, k_eqA, k_not, k_neg, k_conv, k_alloc, k_boxA, k_boxI, k_boxB, k_boxN, k_boxBs, k_ldR, k_ldA, k_ldI, k_ldB, k_stA, k_stI, k_stB, ldC_some, stC_some, k_mkfn, k_slc, k_slcA, k_ixA, k_ixBs, k_ixSl, k_fadr, k_fld, k_ext, k_len, k_app, k_mn, k_mx, k_nilck, k_build, k_bsl1, k_bsl2, b_add, b_sub, b_mul, b_eql, b_neq, b_lss, b_leq, b_gtr, b_geq, Dn.setLast, Dn.getLast, evalO, mapO, Dn.get, putE, keepE_nil, keepE_cons, kp_some, kp_none, TV.one, TV.isAgg, Dn.part, negb, at0, at1, at2, at3, at4, dT, dF, wrapR_i64, Option.bind_some, Option.map_some, hlen, p1, p2, q1, q2]
    · refine .inr ⟨by simp [hxy], ?_⟩
      rw [l32_1, den_loop]
      simp (disch := omega) [b32_0, go_nil, go_last, go_past, go_pastR, go_blkN, go_blkR, go_blkE, go_skip, go_exit, go_ret, go_scope, go_seq, go_reg, go_regd, go_opdN, go_opd, go_opdG, grdd_b, grdd_u, stpd_some, find_some, go_block, go_cond, cnd_b, go_opsN, go_ops, go_opsG, grd_b, grd_u, stp_some, fin_some, up_some, cont_some, k_call, k_mv, k_pick, k_bin, k_eqB, k_eqA, k_not, k_neg, k_conv, k_alloc, k_boxA, k_boxI, k_boxB, k_boxN, k_boxBs, k_ldR, k_ldA, k_ldI, k_ldB, k_stA, k_stI, k_stB, ldC_some, stC_some, k_mkfn, k_slc, k_slcA, k_ixA, k_ixBs, k_ixSl, k_fadr, k_fld, k_ext, k_len, k_app, k_mn, k_mx, k_nilck, k_build, k_bsl1, k_bsl2, b_add, b_sub, b_mul, b_eql, b_neq, b_lss, b_leq, b_gtr, b_geq, Dn.setLast, Dn.getLast, evalO, mapO, Dn.get, putE, keepE_nil, keepE_cons, kp_some, kp_none, TV.one, TV.isAgg, Dn.part, negb, at0, at1, at2, at3, at4, dT, dF, wrapR_i64, Option.bind_some, Option.map_some, hlen, p1, p2, q1, q2, bneT hxy]

theorem fn32 {pg : Pg} (hF : Free pg) {A B : TV} {la lb : List Int} (hA : SV A la) (hB : SV B lb) (h1 : la.length ≤ 9223372036854775807) (h2 : lb.length ≤ 9223372036854775807) : PFn pg 32 [A, B] (.b (decide (la = lb))) := by
  have hla := fun K => (hA.view K).lenK K
  have hlb := fun K => (hB.view K).lenK K
  refine .inr ⟨hF.S _ _ (by decide), .b (decide (la = lb)), [], body_of (x := .ret) (e := [(4, .b (decide (la = lb)))]) (d := d32) (by rw [hF.F]; rfl) rfl ?_ (.inl rfl) rfl, sn_b _ _ _⟩
  by_cases hl : la.length = lb.length
  · rcases l32_all (pg := pg) (H := []) hA hB hl h1 la.length 0 (by omega) with ⟨k1, e, k2⟩ | ⟨k1, k2⟩
    · simp only [Int.natCast_zero, List.drop_zero] at k1 k2
      rw [dT k1]
      simp (disch := omega) [d32, c32, zipE, go_nil, go_last, go_past, go_pastR, go_blkN, go_blkR, go_blkE, go_skip, go_exit, go_ret, go_scope, go_seq, go_reg, go_regd, go_opdN, go_opd, go_opdG, grdd_b, grdd_u, stpd_some, find_some, go_block, go_cond, cnd_b, go_opsN, go_ops, go_opsG, grd_b, grd_u, stp_some, fin_some, up_some, cont_some, k_call, k_mv, k_pick, k_bin, k_eqB, k_eqA, k_not, k_neg, k_conv, k_alloc, k_boxA, k_boxI, k_boxB, k_boxN, k_boxBs, k_ldR, k_ldA, k_ldI, k_ldB, k_stA, k_stI, k_stB, ldC_some, stC_some, k_mkfn, k_slc, k_slcA, k_ixA, k_ixBs, k_ixSl, k_fadr, k_fld, k_ext, k_len, k_app, k_mn, k_mx, k_nilck, k_build, k_bsl1, k_bsl2, b_add, b_sub, b_mul, b_eql, b_neq, b_lss, b_leq, b_gtr, b_geq, Dn.setLast, Dn.getLast, evalO, mapO, Dn.get, putE, keepE_nil, keepE_cons, kp_some, kp_none, TV.one, TV.isAgg, Dn.part, negb, at0, at1, at2, at3, at4, dT, dF, wrapR_i64, Option.bind_some, Option.map_some, hla, hlb, hl, go_denK (c := l32_1) rfl, k2]
    · simp only [Int.natCast_zero, List.drop_zero] at k1 k2
      rw [dF k1]
      simp (disch := omega) [d32, c32, zipE, go_nil, go_last, go_past, go_pastR, go_blkN, go_blkR, go_blkE, go_skip, go_exit, go_ret, go_scope, go_seq, go_reg, go_regd, go_opdN, go_opd, go_opdG, grdd_b, grdd_u, stpd_some, find_some, go_block, go_cond, cnd_b, go_opsN, go_ops, go_opsG, grd_b, grd_u, stp_some, fin_some, up_some, cont_some, k_call, k_mv, k_pick, k_bin, k_eqB, k_eqA, k_not, k_neg, k_conv, k_alloc, k_boxA, k_boxI, k_boxB, k_boxN, k_boxBs, k_ldR, k_ldA, k_ldI, k_ldB, k_stA, k_stI, k_stB, ldC_some, stC_some, k_mkfn, k_slc, k_slcA, k_ixA, k_ixBs, k_ixSl, k_fadr, k_fld, k_ext, k_len, k_app, k_mn, k_mx, k_nilck, k_build, k_bsl1, k_bsl2, b_add, b_sub, b_mul, b_eql, b_neq, b_lss, b_leq, b_gtr, b_geq, Dn.setLast, Dn.getLast, evalO, mapO, Dn.get, putE, keepE_nil, keepE_cons, kp_some, kp_none, TV.one, TV.isAgg, Dn.part, negb, at0, at1, at2, at3, at4, dT, dF, wrapR_i64, Option.bind_some, Option.map_some, hla, hlb, hl, go_denK (c := l32_1) rfl, k2]
  · have : ¬ la = lb := by rintro rfl; exact hl rfl
    rw [dF this]
    have hne : (((la.length : Int) != (lb.length : Int)) = true) := bneT (by omega)
    simp (disch := omega) [d32, c32, zipE, go_nil, go_last, go_past, go_pastR, go_blkN, go_blkR, go_blkE, go_skip, go_exit, go_ret, go_scope, go_seq, go_reg, go_regd, go_opdN, go_opd, go_opdG, grdd_b, grdd_u, stpd_some, find_some, go_block, go_cond, cnd_b, go_opsN, go_ops, go_opsG, grd_b, grd_u, stp_some, fin_some, up_some, cont_some, k_call, k_mv, k_pick, k_bin, k_eqB, k_eqA, k_not, k_neg, k_conv, k_alloc, k_boxA, k_boxI, k_boxB, k_boxN, k_boxBs, k_ldR, k_ldA, k_ldI, k_ldB, k_stA, k_stI, k_stB, ldC_some, stC_some, k_mkfn, k_slc, k_slcA, k_ixA, k_ixBs, k_ixSl, k_fadr, k_fld, k_ext, k_len, k_app, k_mn, k_mx, k_nilck, k_build, k_bsl1, k_bsl2, b_add, b_sub, b_mul, b_eql, b_neq, b_lss, b_leq, b_gtr, b_geq, Dn.setLast, Dn.getLast, evalO, mapO, Dn.get, putE, keepE_nil, keepE_cons, kp_some, kp_none, TV.one, TV.isAgg, Dn.part, negb, at0, at1, at2, at3, at4, dT, dF, wrapR_i64, Option.bind_some, Option.map_some, hla, hlb, hne]

/-! whether a list is a way -/
/-! the program's way -/
end Go.Proofs.Tryd.Dn

/-
  Knight: the law of moves, run.
-/

namespace Go.Proofs.Tryd.Dn
open Go.Dn

/-- a call of a function of values, as code meets it -/
theorem PFn.at {pg : Pg} {f : Nat} {xs : List TV} {r : TV} (h : PFn pg f xs r) (hs : ∀ H, snapArgs H [] xs = some xs) (H : Heap) : callRun pg (den pg) (.pu []) (.fn f [] [] :: xs) H = some (r, H) :=
  PFn.call h (args := xs) (ks := []) (fs := []) (cs := []) (H := H) (by rw [List.nil_append, List.append_nil]; exact hs H)

theorem sa_I {H : Heap} {k : IntKind} {n : Int} {l : List TV} (h : snapArgs H [] l = some l) : snapArgs H [] (.i k n :: l) = some (.i k n :: l) := by
  simp [snapArgs, sn_i, h]
theorem sa_0 {H : Heap} : snapArgs H [] [] = some [] := rfl

end Go.Proofs.Tryd.Dn

