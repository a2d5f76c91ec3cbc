/-
  Knight: a range over the levels of a board that lies anywhere; Rides.
-/
import Derived.Test.YtdjbpmgbaggfbaaDoorKf7
set_option linter.unusedSimpArgs false
set_option linter.unusedVariables false

namespace Go.Proofs.Tryd.Dn
open Go.Dn

/-- a value that leads to a board -/
def Bv (r c : Nat) (H : Heap) (BV : TV) : Prop := snap .borrow H 9 BV = some (.bp true (.agg (bM r c)))

theorem Bv.bp (r c : Nat) (H : Heap) (bo : Bool) : Bv r c H (.bp bo (.agg (bM r c))) := snap_bp bo H r c

theorem Bv.ref {r c id : Nat} {H : Heap} (h : H[id]? = some (.cells (bM r c) true)) : Bv r c H (.ref id 0) := by
  have hm : mapO (snap .borrow H 8) (bM r c) = some (bM r c) := mapO_self fun x hx => by obtain ⟨k, n, rfl⟩ := bM_int hx; exact sn8_i _ _ _ _
  unfold Bv
  rw [snap]
  simp [h, hm]

theorem Bv.call71 {pg : Pg} (hF : Free pg) {r c x : Nat} {H : Heap} {BV : TV} (hb : Bv r c H BV) (h : Brd r c) (hx : x < 2 ^ (r * c)) :
    callRun pg (den pg) (.pu []) [.fn 71 [] [], BV, .i .u64 (x : Int)] H = some (.i .u64 (around r c x : Int), H) := by
  unfold Bv at hb
  exact PFn.call (fn71 hF (bo := true) h hx) (args := [BV, .i .u64 (x : Int)]) (by simp [snapArgs, sn_i, hb])

theorem l95_allG {pg : Pg} (hF : Free pg) {lp bc r c a N : Nat} {BV : TV} (hag : BV.isAgg = false) (h : Brd r c) (ha : a < r * c) (hN : N ≤ 1000000) (hz : (lv r c a N).2 = 0) {L : ALoop} (hst : L.st = .ready) (hpe : L.pend = none) (hpa : L.params.length = 2) {P : Nat → Heap → Prop} {Q : Ex → Heap → Prop}
    (hBv : ∀ n H, P n H → Bv r c H BV) (hR : RndL pg lp bc BV L (fun n => (lv r c a n).2) P Q) : ∀ (d n : Nat) (H : Heap), n + d = N → H[lp]? = some (.loop L) → H[bc]? = some (.cells [BV] false) → P n H →
    (∃ e H2 m, den pg l95_1 [(0, .yl lp), (2, .ref bc 0), (4, .i .u64 ((lv r c a n).1 : Int)), (5, .i .u64 ((lv r c a n).2 : Int)), (6, .i .i64 (n : Int))] H = some ⟨.exit 0, e, H2⟩ ∧ H2[lp]? = some (.loop L) ∧ P m H2 ∧ (lv r c a m).2 = 0) ∨
    (∃ x e H2, x ≠ .normal ∧ den pg l95_1 [(0, .yl lp), (2, .ref bc 0), (4, .i .u64 ((lv r c a n).1 : Int)), (5, .i .u64 ((lv r c a n).2 : Int)), (6, .i .i64 (n : Int))] H = some ⟨.ret, e, H2.set lp (.loop { L with st := .done, pend := some x })⟩ ∧ H2[lp]? = some (.loop L) ∧ Q x H2) := by
  intro d
  induction d with
  | zero =>
    intro n H hd hl hb hP
    obtain rfl : n = N := by omega
    refine .inl ⟨[(0, .yl lp), (2, .ref bc 0), (4, .i .u64 ((lv r c a n).1 : Int)), (5, .i .u64 ((lv r c a n).2 : Int)), (6, .i .i64 (n : Int)), (11, .b false)], H, n, ?_, hl, hP, hz⟩
    rw [hz]
    rw [l95_1, den_loop]
    simp [b95_0, go_nil, go_last, go_past, go_pastR, go_blkN, go_blkR, go_blkE, go_skip, go_exit, go_ret, go_scope, go_seq, go_reg, go_regd, go_opdN, go_opd, go_opdG, grdd_b, grdd_u, stpd_some, find_some, go_block, go_cond, cnd_b, go_opsN, go_ops, go_opsG, grd_b, grd_u, stp_some, fin_some, up_some, cont_some, k_call, k_mv, k_pick, k_bin, k_eqB, k_eqA, k_not, k_neg, k_conv, k_alloc, k_boxA, k_boxI, k_boxB, k_boxN, k_boxBs, k_ldR, k_ldA, k_ldI, k_ldB, k_stA, k_stI, k_stB, ldC_some, stC_some, k_mkfn, k_slc, k_slcA, k_ixA, k_ixBs, k_ixSl, k_fadr, k_fld, k_ext, k_len, k_app, k_mn, k_mx, k_nilck, k_build, k_bsl1, k_bsl2, b_add, b_sub, b_mul, b_eql, b_neq, b_lss, b_leq, b_gtr, b_geq, Dn.setLast, Dn.getLast, evalO, mapO, Dn.get, putE, keepE, TV.one, TV.isAgg, Dn.part]
  | succ d ih =>
    intro n H hd hl hb hP
    by_cases h0 : (lv r c a n).2 = 0
    · refine .inl ⟨[(0, .yl lp), (2, .ref bc 0), (4, .i .u64 ((lv r c a n).1 : Int)), (5, .i .u64 ((lv r c a n).2 : Int)), (6, .i .i64 (n : Int)), (11, .b false)], H, n, ?_, hl, hP, h0⟩
      rw [h0]
      rw [l95_1, den_loop]
      simp [b95_0, go_nil, go_last, go_past, go_pastR, go_blkN, go_blkR, go_blkE, go_skip, go_exit, go_ret, go_scope, go_seq, go_reg, go_regd, go_opdN, go_opd, go_opdG, grdd_b, grdd_u, stpd_some, find_some, go_block, go_cond, cnd_b, go_opsN, go_ops, go_opsG, grd_b, grd_u, stp_some, fin_some, up_some, cont_some, k_call, k_mv, k_pick, k_bin, k_eqB, k_eqA, k_not, k_neg, k_conv, k_alloc, k_boxA, k_boxI, k_boxB, k_boxN, k_boxBs, k_ldR, k_ldA, k_ldI, k_ldB, k_stA, k_stI, k_stB, ldC_some, stC_some, k_mkfn, k_slc, k_slcA, k_ixA, k_ixBs, k_ixSl, k_fadr, k_fld, k_ext, k_len, k_app, k_mn, k_mx, k_nilck, k_build, k_bsl1, k_bsl2, b_add, b_sub, b_mul, b_eql, b_neq, b_lss, b_leq, b_gtr, b_geq, Dn.setLast, Dn.getLast, evalO, mapO, Dn.get, putE, keepE, TV.one, TV.isAgg, Dn.part]
    · have hn := h.n36
      have h64 : 2 ^ (r * c) ≤ 18446744073709551616 := by have := Nat.pow_le_pow_right (n := 2) (by decide) (show r * c ≤ 64 by omega); omega
      obtain ⟨b1, b2⟩ := lv_lt h ha n
      have b3 := around_lt h b2
      have w1 : wrapR .i64 ((n : Int) + 1) = .i .i64 ((n : Int) + 1) := wrapR_i64 (by omega)
      have o1 := or_uu (m := (lv r c a n).1) (k := (lv r c a n).2) (by omega) (by omega)
      have o2 := andN_uu (m := around r c (lv r c a n).2) (k := (lv r c a n).1 ||| (lv r c a n).2) (by omega)
      rcases hR n H hP hl h0 with ⟨H2, hbd, hP2, hb2⟩ | ⟨y, H2, hy, hbd, hQ⟩
      · have hyl := yield_of hst hpe (by simpa using hpa) hl hbd
        rw [if_pos rfl] at hyl
        dsimp only at hyl
        have hl2 := hbd.there
        have l2 := ld_box (pg := pg) (R := den pg) hb2 hag
        have c71 := (hBv _ _ hP2).call71 (pg := pg) hF h b2
        rcases ih (n + 1) H2 (by omega) hl2 hb2 hP2 with ⟨e, H3, m, r1, r2, r3, r4⟩ | ⟨y, e, H3, r0, r1, r2, r3⟩
        · refine .inl ⟨e, H3, m, Eq.trans ?_ r1, r2, r3, r4⟩
          simp only [lv]
          generalize (lv r c a n).1 = S at *
          generalize (lv r c a n).2 = T at *
          generalize around r c T = A at *
          generalize hor : S ||| T = O at *
          generalize andN A O = W at *
          rw [l95_1, den_loop]
          simp [l95_1, b95_0, go_nil, go_last, go_past, go_pastR, go_blkN, go_blkR, go_blkE, go_skip, go_exit, go_ret, go_scope, go_seq, go_reg, go_regd, go_opdN, go_opd, go_opdG, grdd_b, grdd_u, stpd_some, find_some, go_block, go_cond, cnd_b, go_opsN, go_ops, go_opsG, grd_b, grd_u, stp_some, fin_some, up_some, cont_some, k_call, k_mv, k_pick, k_bin, k_eqB, k_eqA, k_not, k_neg, k_conv, k_alloc, k_boxA, k_boxI, k_boxB, k_boxN, k_boxBs, k_ldR, k_ldA, k_ldI, k_ldB, k_stA, k_stI, k_stB, ldC_some, stC_some, k_mkfn, k_slc, k_slcA, k_ixA, k_ixBs, k_ixSl, k_fadr, k_fld, k_ext, k_len, k_app, k_mn, k_mx, k_nilck, k_build, k_bsl1, k_bsl2, b_add, b_sub, b_mul, b_eql, b_neq, b_lss, b_leq, b_gtr, b_geq, Dn.setLast, Dn.getLast, evalO, mapO, Dn.get, putE, keepE, TV.one, TV.isAgg, Dn.part, h0, sh_yl, hyl, l2, c71, o1, o2, w1]
        · refine .inr ⟨y, e, H3, r0, Eq.trans ?_ r1, r2, r3⟩
          simp only [lv]
          generalize (lv r c a n).1 = S at *
          generalize (lv r c a n).2 = T at *
          generalize around r c T = A at *
          generalize hor : S ||| T = O at *
          generalize andN A O = W at *
          rw [l95_1, den_loop]
          simp [l95_1, b95_0, go_nil, go_last, go_past, go_pastR, go_blkN, go_blkR, go_blkE, go_skip, go_exit, go_ret, go_scope, go_seq, go_reg, go_regd, go_opdN, go_opd, go_opdG, grdd_b, grdd_u, stpd_some, find_some, go_block, go_cond, cnd_b, go_opsN, go_ops, go_opsG, grd_b, grd_u, stp_some, fin_some, up_some, cont_some, k_call, k_mv, k_pick, k_bin, k_eqB, k_eqA, k_not, k_neg, k_conv, k_alloc, k_boxA, k_boxI, k_boxB, k_boxN, k_boxBs, k_ldR, k_ldA, k_ldI, k_ldB, k_stA, k_stI, k_stB, ldC_some, stC_some, k_mkfn, k_slc, k_slcA, k_ixA, k_ixBs, k_ixSl, k_fadr, k_fld, k_ext, k_len, k_app, k_mn, k_mx, k_nilck, k_build, k_bsl1, k_bsl2, b_add, b_sub, b_mul, b_eql, b_neq, b_lss, b_leq, b_gtr, b_geq, Dn.setLast, Dn.getLast, evalO, mapO, Dn.get, putE, keepE, TV.one, TV.isAgg, Dn.part, h0, sh_yl, hyl, l2, c71, o1, o2, w1]
      · have hyl := yield_of hst hpe (by simpa using hpa) hl hbd
        rw [if_neg hy] at hyl
        dsimp only at hyl
        refine .inr ⟨y, [(0, .yl lp), (2, .ref bc 0), (4, .i .u64 ((lv r c a n).1 : Int)), (5, .i .u64 ((lv r c a n).2 : Int)), (6, .i .i64 (n : Int)), (18, .b true)], H2, hy, ?_, hbd.there, hQ⟩
        rw [l95_1, den_loop]
        simp [b95_0, go_nil, go_last, go_past, go_pastR, go_blkN, go_blkR, go_blkE, go_skip, go_exit, go_ret, go_scope, go_seq, go_reg, go_regd, go_opdN, go_opd, go_opdG, grdd_b, grdd_u, stpd_some, find_some, go_block, go_cond, cnd_b, go_opsN, go_ops, go_opsG, grd_b, grd_u, stp_some, fin_some, up_some, cont_some, k_call, k_mv, k_pick, k_bin, k_eqB, k_eqA, k_not, k_neg, k_conv, k_alloc, k_boxA, k_boxI, k_boxB, k_boxN, k_boxBs, k_ldR, k_ldA, k_ldI, k_ldB, k_stA, k_stI, k_stB, ldC_some, stC_some, k_mkfn, k_slc, k_slcA, k_ixA, k_ixBs, k_ixSl, k_fadr, k_fld, k_ext, k_len, k_app, k_mn, k_mx, k_nilck, k_build, k_bsl1, k_bsl2, b_add, b_sub, b_mul, b_eql, b_neq, b_lss, b_leq, b_gtr, b_geq, Dn.setLast, Dn.getLast, evalO, mapO, Dn.get, putE, keepE, TV.one, TV.isAgg, Dn.part, h0, sh_yl, hyl]

/-- the range over levels, as code meets it -/
theorem rngLG {pg : Pg} (hF : Free pg) {f s bc p q r c a N : Nat} {BV : TV} (hag : BV.isAgg = false) {as_ bd : DC} {ks : List Nat} {e : Env} {H : Heap} (h : Brd r c) (ha : a < r * c) (hN : N ≤ 1000000) (hz : (lv r c a N).2 = 0)
    (he : Dn.get e f = some (.fn 95 [] [.ref s 0, .ref bc 0])) (hs : H[s]? = some (.cells [.i .i64 (a : Int)] false)) (hbc : H[bc]? = some (.cells [BV] false))
    {P : Nat → Heap → Prop} {Q : Ex → Heap → Prop} (h0 : P 0 (H ++ [.loop (lp2 as_ bd [p, q] ks e)])) (hBv : ∀ n H, P n H → Bv r c H BV) (hR : RndL pg H.length bc BV (lp2 as_ bd [p, q] ks e) (fun n => (lv r c a n).2) P Q) :
    (∃ H2 m, (∀ K, go pg (den pg) (.c (.rfunc (.t f) [p, q] as_ bd ks) :: K) .normal e H = go pg (den pg) K .normal (keepE ks e) (H2.set H.length (.loop { lp2 as_ bd [p, q] ks e with st := .exhausted }))) ∧ P m H2 ∧ (lv r c a m).2 = 0) ∨
    (∃ x H2, x ≠ .normal ∧ (∀ K, go pg (den pg) (.c (.rfunc (.t f) [p, q] as_ bd ks) :: K) .normal e H = go pg (den pg) K x (keepE ks e) (H2.set H.length (.loop { lp2 as_ bd [p, q] ks e with st := .exhausted, pend := some x }))) ∧ Q x H2) := by
  have hn := h.n36
  have hsl := (List.getElem?_eq_some_iff.1 hs).1
  have hbl := (List.getElem?_eq_some_iff.1 hbc).1
  have hd : pg.F 95 = some d95 := by rw [hF.F]; rfl
  have run := l95_allG hF (lp := H.length) (bc := bc) hag h ha hN hz (L := lp2 as_ bd [p, q] ks e) rfl rfl rfl hBv hR N 0 (H ++ [.loop (lp2 as_ bd [p, q] ks e)]) (by omega) (getLast _ _) (by rw [List.getElem?_append_left hbl]; exact hbc) h0
  have ls := ld_box (pg := pg) (R := den pg) (H := H ++ [.loop (lp2 as_ bd [p, q] ks e)]) (by rw [List.getElem?_append_left hsl]; exact hs) rfl
  have w1 := wrap_sq (a := a) (by omega)
  have sh := Dn.shl_u (k := .u64) (c := a) (by omega)
  have e0 : (lv r c a 0).1 = 0 := rfl
  have e1 : (lv r c a 0).2 = 2 ^ a := rfl
  rw [e0, e1] at run
  simp only [Int.natCast_zero] at run
  generalize ((2 ^ a : Nat) : Int) = T at *
  rcases run with ⟨e2, H2, m, r1, r2, r3, r4⟩ | ⟨y, e2, H2, r0, r1, r2, r3⟩
  · have hb : bodyRun pg (den pg) 95 [.yl H.length, .ref s 0, .ref bc 0] (H ++ [.loop (lp2 as_ bd [p, q] ks e)]) = some (.tup [], H2) := by
      refine bodyRun_of (vs := []) (o := ⟨.normal, e2, H2⟩) hd rfl ?_ (by simp) rfl
      rw [runC_go]
      simp [d95, c95, zipE, go_nil, go_last, go_past, go_pastR, go_blkN, go_blkR, go_blkE, go_skip, go_exit, go_ret, go_scope, go_seq, go_reg, go_regd, go_opdN, go_opd, go_opdG, grdd_b, grdd_u, stpd_some, find_some, go_block, go_cond, cnd_b, go_opsN, go_ops, go_opsG, grd_b, grd_u, stp_some, fin_some, up_some, cont_some, k_call, k_mv, k_pick, k_bin, k_eqB, k_eqA, k_not, k_neg, k_conv, k_alloc, k_boxA, k_boxI, k_boxB, k_boxN, k_boxBs, k_ldR, k_ldA, k_ldI, k_ldB, k_stA, k_stI, k_stB, ldC_some, stC_some, k_mkfn, k_slc, k_slcA, k_ixA, k_ixBs, k_ixSl, k_fadr, k_fld, k_ext, k_len, k_app, k_mn, k_mx, k_nilck, k_build, k_bsl1, k_bsl2, b_add, b_sub, b_mul, b_eql, b_neq, b_lss, b_leq, b_gtr, b_geq, Dn.setLast, Dn.getLast, evalO, mapO, Dn.get, putE, keepE, TV.one, TV.isAgg, Dn.part, ls, w1, sh, go_denK (c := l95_1) rfl, r1]
    refine .inl ⟨H2, m, fun K => ?_, r3, r4⟩
    have := go_rfunc (pg := pg) (K := K) (f := .t f) (ps := [p, q]) (as_ := as_) (bd := bd) (ks := ks) (e := e) (H := H) (fv := .fn 95 [] [.ref s 0, .ref bc 0]) (r := .tup []) (L := lp2 as_ bd [p, q] ks e) (H2 := H2) he (by rw [sh_fn]; exact hb) r2 (by simp [lp2])
    rw [this]
    rfl
  · have hlt := (List.getElem?_eq_some_iff.1 r2).1
    have hb : bodyRun pg (den pg) 95 [.yl H.length, .ref s 0, .ref bc 0] (H ++ [.loop (lp2 as_ bd [p, q] ks e)]) = some (.tup [], H2.set H.length (.loop { lp2 as_ bd [p, q] ks e with st := .done, pend := some y })) := by
      refine bodyRun_of (vs := []) (o := ⟨.ret, e2, _⟩) hd rfl ?_ (by simp) rfl
      rw [runC_go]
      simp [d95, c95, zipE, go_nil, go_last, go_past, go_pastR, go_blkN, go_blkR, go_blkE, go_skip, go_exit, go_ret, go_scope, go_seq, go_reg, go_regd, go_opdN, go_opd, go_opdG, grdd_b, grdd_u, stpd_some, find_some, go_block, go_cond, cnd_b, go_opsN, go_ops, go_opsG, grd_b, grd_u, stp_some, fin_some, up_some, cont_some, k_call, k_mv, k_pick, k_bin, k_eqB, k_eqA, k_not, k_neg, k_conv, k_alloc, k_boxA, k_boxI, k_boxB, k_boxN, k_boxBs, k_ldR, k_ldA, k_ldI, k_ldB, k_stA, k_stI, k_stB, ldC_some, stC_some, k_mkfn, k_slc, k_slcA, k_ixA, k_ixBs, k_ixSl, k_fadr, k_fld, k_ext, k_len, k_app, k_mn, k_mx, k_nilck, k_build, k_bsl1, k_bsl2, b_add, b_sub, b_mul, b_eql, b_neq, b_lss, b_leq, b_gtr, b_geq, Dn.setLast, Dn.getLast, evalO, mapO, Dn.get, putE, keepE, TV.one, TV.isAgg, Dn.part, ls, w1, sh, go_denK (c := l95_1) rfl, r1]
    refine .inr ⟨y, H2, r0, fun K => ?_, r3⟩
    have := go_rfunc (pg := pg) (K := K) (f := .t f) (ps := [p, q]) (as_ := as_) (bd := bd) (ks := ks) (e := e) (H := H) (fv := .fn 95 [] [.ref s 0, .ref bc 0]) (r := .tup []) (L := { lp2 as_ bd [p, q] ks e with st := .done, pend := some y }) he (by rw [sh_fn]; exact hb) (by rw [List.getElem?_set_self hlt]) (by simp)
    rw [this, List.set_set]
    rfl

theorem body73G {pg : Pg} (hF : Free pg) {x : TV} (hx : x.one = true) (a : Int) (H : Heap) : bodyRun pg (den pg) 73 [x, .i .i64 a] H = some (.fn 95 [] [.ref (H.length + 1) 0, .ref H.length 0], H ++ [.cells [x] false, .cells [.i .i64 a] false]) := by
  refine body_of (x := .ret) (e := [(4, .fn 95 [] [.ref (H.length + 1) 0, .ref H.length 0])]) (d := d73) (by rw [hF.F]; rfl) rfl ?_ (.inl rfl) rfl
  have kb := k_box (pg := pg) (R := den pg) x H hx
  simp [d73, c73, zipE, go_nil, go_last, go_past, go_pastR, go_blkN, go_blkR, go_blkE, go_skip, go_exit, go_ret, go_scope, go_seq, go_reg, go_regd, go_opdN, go_opd, go_opdG, grdd_b, grdd_u, stpd_some, find_some, go_block, go_cond, cnd_b, go_opsN, go_ops, go_opsG, grd_b, grd_u, stp_some, fin_some, up_some, cont_some, k_call, k_mv, k_pick, k_bin, k_eqB, k_eqA, k_not, k_neg, k_conv, k_alloc, k_boxA, k_boxI, k_boxB, k_boxN, k_boxBs, k_ldR, k_ldA, k_ldI, k_ldB, k_stA, k_stI, k_stB, ldC_some, stC_some, k_mkfn, k_slc, k_slcA, k_ixA, k_ixBs, k_ixSl, k_fadr, k_fld, k_ext, k_len, k_app, k_mn, k_mx, k_nilck, k_build, k_bsl1, k_bsl2, b_add, b_sub, b_mul, b_eql, b_neq, b_lss, b_leq, b_gtr, b_geq, Dn.setLast, Dn.getLast, evalO, mapO, Dn.get, putE, keepE, TV.one, TV.isAgg, Dn.part, kb]

/-- the levels up to a number, together -/
def rd (r c a q : Nat) : Nat → Nat
  | 0 => 0
  | n + 1 => if n ≤ q then rd r c a q n ||| front r c a n else rd r c a q n

theorem rd_lt {r c a q : Nat} (h : Brd r c) (ha : a < r * c) : ∀ n, rd r c a q n < 2 ^ (r * c)
  | 0 => Nat.two_pow_pos _
  | n + 1 => by
    rw [rd]
    split
    · exact or_lt (rd_lt h ha n) (front_lt h ha n)
    · exact rd_lt h ha n

theorem rd_bit {r c a q t : Nat} : ∀ n, (rd r c a q n).testBit t = true ↔ ∃ j, j < n ∧ j ≤ q ∧ (front r c a j).testBit t = true
  | 0 => by simp [rd]
  | n + 1 => by
    rw [rd]
    split
    · rw [Nat.testBit_or, Bool.or_eq_true, rd_bit n]
      constructor
      · rintro (⟨j, h1, h2, h3⟩ | h3)
        · exact ⟨j, by omega, h2, h3⟩
        · exact ⟨n, by omega, by assumption, h3⟩
      · rintro ⟨j, h1, h2, h3⟩
        by_cases hj : j = n
        · subst hj; exact .inr h3
        · exact .inl ⟨j, by omega, h2, h3⟩
    · rw [rd_bit n]
      constructor
      · rintro ⟨j, h1, h2, h3⟩; exact ⟨j, by omega, h2, h3⟩
      · rintro ⟨j, h1, h2, h3⟩; exact ⟨j, by omega, h2, h3⟩

/-- the state of Rides' loop -/
structure RdS (r c a q A lp : Nat) (H : Heap) (n : Nat) : Prop where
  most : H[0]? = some (.cells [.i .i64 (q : Int)] false)
  board : H[2]? = some (.cells (bM r c) true)
  out : H[A]? = some (.cells [.i .u64 (rd r c a q n : Int)] false)
  bc : H[A + 1]? = some (.cells [.ref 2 0] false)
  len : lp < H.length

theorem RdS.set {r c a q A lp : Nat} {H : Heap} {n : Nat} (h : RdS r c a q A lp H n) (hA : 2 < A) (hl : lp = A + 3) (o : AObj) : RdS r c a q A lp (H.set lp o) n :=
  ⟨by rw [List.getElem?_set_ne (by omega)]; exact h.most, by rw [List.getElem?_set_ne (by omega)]; exact h.board, by rw [List.getElem?_set_ne (by omega)]; exact h.out, by rw [List.getElem?_set_ne (by omega)]; exact h.bc, by simpa using h.len⟩

theorem rd_round {pg : Pg} (hF : Free pg) {r c a q A lp : Nat} (h : Brd r c) (ha : a < r * c) (hA : 2 < A) (hl : lp = A + 3) {L : ALoop} {e : Env} (hL : L = lp2 a42_0 b42_1 [35, 36] [7, 12] e) (he : keepE [7, 12] e = [(7, .ref 0 0), (12, .ref A 0)]) :
    RndL pg lp (A + 1) (.ref 2 0) L (fun n => (lv r c a n).2) (fun n H => RdS r c a q A lp H n) (fun _ _ => False) := by
  rintro n H hS hlp hne
  have hT : (lv r c a n).2 = front r c a n := rfl
  have hf := front_lt h ha n
  have h64 := lv64 h
  have hr := rd_lt (q := q) h ha n
  show (∃ H2, Body pg lp L [.i .i64 (n : Int), .i .u64 (front r c a n : Int)] H .normal H2 ∧ _) ∨ _
  obtain ⟨HB, hHB⟩ : ∃ HB, HB = H.set lp (.loop { L with st := .busy }) := ⟨_, rfl⟩
  have pB : RdS r c a q A lp HB n := by rw [hHB]; exact hS.set hA hl _
  have hlB : HB[lp]? = some (.loop { L with st := .busy }) := by rw [hHB, List.getElem?_set_self hS.len]
  have l0 := ld_box (pg := pg) (R := den pg) pB.most rfl
  have l1 := ld_box (pg := pg) (R := den pg) pB.out rfl
  have o1 := or_uu (m := rd r c a q n) (k := front r c a n) (by omega) (by omega)
  have st := st_box (pg := pg) (R := den pg) (v := .i .u64 ((rd r c a q n ||| front r c a n : Nat) : Int)) pB.out rfl
  have hAl := (List.getElem?_eq_some_iff.1 pB.out).1
  have hLe : L.env = [(7, .ref 0 0), (12, .ref A 0)] := by rw [hL]; exact he
  have hLa : L.assign = a42_0 := by rw [hL]; rfl
  have hLb : L.body = b42_1 := by rw [hL]; rfl
  have hLp : L.params = [35, 36] := by rw [hL]; rfl
  have ha1 : den pg L.assign ((L.params.zip [.i .i64 (n : Int), .i .u64 (front r c a n : Int)]).reverse ++ L.env) H = some ⟨.normal, [(7, .ref 0 0), (12, .ref A 0), (13, .i .i64 (n : Int)), (14, .i .u64 (front r c a n : Int))], H⟩ := by
    rw [hLe, hLa, hLp, den_eq, runC_go]
    simp [a42_0, go_nil, go_last, go_past, go_pastR, go_blkN, go_blkR, go_blkE, go_skip, go_exit, go_ret, go_scope, go_seq, go_reg, go_regd, go_opdN, go_opd, go_opdG, grdd_b, grdd_u, stpd_some, find_some, go_block, go_cond, cnd_b, go_opsN, go_ops, go_opsG, grd_b, grd_u, stp_some, fin_some, up_some, cont_some, k_call, k_mv, k_pick, k_bin, k_eqB, k_eqA, k_not, k_neg, k_conv, k_alloc, k_boxA, k_boxI, k_boxB, k_boxN, k_boxBs, k_ldR, k_ldA, k_ldI, k_ldB, k_stA, k_stI, k_stB, ldC_some, stC_some, k_mkfn, k_slc, k_slcA, k_ixA, k_ixBs, k_ixSl, k_fadr, k_fld, k_ext, k_len, k_app, k_mn, k_mx, k_nilck, k_build, k_bsl1, k_bsl2, b_add, b_sub, b_mul, b_eql, b_neq, b_lss, b_leq, b_gtr, b_geq, Dn.setLast, Dn.getLast, evalO, mapO, Dn.get, putE, keepE, TV.one, TV.isAgg, Dn.part]
  have rs : rd r c a q (n + 1) = if n ≤ q then rd r c a q n ||| front r c a n else rd r c a q n := rfl
  by_cases hq : n ≤ q
  · rw [if_pos hq] at rs
    have hb : den pg L.body [(7, .ref 0 0), (12, .ref A 0), (13, .i .i64 (n : Int)), (14, .i .u64 (front r c a n : Int))] HB = some ⟨.normal, [], HB.set A (.cells [.i .u64 (rd r c a q (n + 1) : Int)] false)⟩ := by
      rw [hLb, den_eq, runC_go, rs]
      generalize rd r c a q n ||| front r c a n = V at *
      generalize front r c a n = W at *
      generalize rd r c a q n = X at *
      have dq : decide ((n : Int) ≤ (q : Int)) = true := dT (by omega)
      simp [b42_1, go_nil, go_last, go_past, go_pastR, go_blkN, go_blkR, go_blkE, go_skip, go_exit, go_ret, go_scope, go_seq, go_reg, go_regd, go_opdN, go_opd, go_opdG, grdd_b, grdd_u, stpd_some, find_some, go_block, go_cond, cnd_b, go_opsN, go_ops, go_opsG, grd_b, grd_u, stp_some, fin_some, up_some, cont_some, k_call, k_mv, k_pick, k_bin, k_eqB, k_eqA, k_not, k_neg, k_conv, k_alloc, k_boxA, k_boxI, k_boxB, k_boxN, k_boxBs, k_ldR, k_ldA, k_ldI, k_ldB, k_stA, k_stI, k_stB, ldC_some, stC_some, k_mkfn, k_slc, k_slcA, k_ixA, k_ixBs, k_ixSl, k_fadr, k_fld, k_ext, k_len, k_app, k_mn, k_mx, k_nilck, k_build, k_bsl1, k_bsl2, b_add, b_sub, b_mul, b_eql, b_neq, b_lss, b_leq, b_gtr, b_geq, Dn.setLast, Dn.getLast, evalO, mapO, Dn.get, putE, keepE, TV.one, TV.isAgg, Dn.part, l0, l1, o1, st, dq, hq]
    refine .inl ⟨(HB.set A (.cells [.i .u64 (rd r c a q (n + 1) : Int)] false)).set lp (.loop L), Body.of ha1 hlp (by rw [← hHB]; exact hb) (by rw [List.getElem?_set_ne (by omega)]; exact hlB), ?_, ?_⟩
    · refine RdS.set ⟨?_, ?_, ?_, ?_, ?_⟩ hA hl _
      · rw [List.getElem?_set_ne (by omega)]; exact pB.most
      · rw [List.getElem?_set_ne (by omega)]; exact pB.board
      · rw [List.getElem?_set_self hAl]
      · rw [List.getElem?_set_ne (by omega)]; exact pB.bc
      · simpa using pB.len
    · rw [List.getElem?_set_ne (by omega), List.getElem?_set_ne (by omega)]; exact pB.bc
  · rw [if_neg hq] at rs
    have hb : den pg L.body [(7, .ref 0 0), (12, .ref A 0), (13, .i .i64 (n : Int)), (14, .i .u64 (front r c a n : Int))] HB = some ⟨.normal, [(12, .ref A 0), (14, .i .u64 (front r c a n : Int)), (39, .b false)], HB⟩ := by
      rw [hLb, den_eq, runC_go]
      generalize front r c a n = W at *
      have dq : decide ((n : Int) ≤ (q : Int)) = false := dF (by omega)
      simp [b42_1, go_nil, go_last, go_past, go_pastR, go_blkN, go_blkR, go_blkE, go_skip, go_exit, go_ret, go_scope, go_seq, go_reg, go_regd, go_opdN, go_opd, go_opdG, grdd_b, grdd_u, stpd_some, find_some, go_block, go_cond, cnd_b, go_opsN, go_ops, go_opsG, grd_b, grd_u, stp_some, fin_some, up_some, cont_some, k_call, k_mv, k_pick, k_bin, k_eqB, k_eqA, k_not, k_neg, k_conv, k_alloc, k_boxA, k_boxI, k_boxB, k_boxN, k_boxBs, k_ldR, k_ldA, k_ldI, k_ldB, k_stA, k_stI, k_stB, ldC_some, stC_some, k_mkfn, k_slc, k_slcA, k_ixA, k_ixBs, k_ixSl, k_fadr, k_fld, k_ext, k_len, k_app, k_mn, k_mx, k_nilck, k_build, k_bsl1, k_bsl2, b_add, b_sub, b_mul, b_eql, b_neq, b_lss, b_leq, b_gtr, b_geq, Dn.setLast, Dn.getLast, evalO, mapO, Dn.get, putE, keepE, TV.one, TV.isAgg, Dn.part, l0, dq, hq]
    refine .inl ⟨HB.set lp (.loop L), Body.of ha1 hlp (by rw [← hHB]; exact hb) hlB, ?_, ?_⟩
    · refine RdS.set ⟨pB.most, pB.board, ?_, pB.bc, pB.len⟩ hA hl _
      rw [rs]; exact pB.out
    · rw [List.getElem?_set_ne (by omega)]; exact pB.bc

theorem mem64_range {n x : Nat} (hn : n ≤ 64) (hx : x < 2 ^ n) : mem64 x = (List.range n).filter fun t => x.testBit t := by
  unfold mem64
  rw [show 64 = n + (64 - n) by omega, List.range_add, List.filter_append]
  have h2 : ((List.range (64 - n)).map (fun t => n + t)).filter (fun i => x.testBit i) = [] := by
    rw [List.filter_eq_nil_iff]
    intro y hy
    rw [List.mem_map] at hy
    obtain ⟨z, _, rfl⟩ := hy
    have := Nat.testBit_lt_two_pow (i := n + z) (Nat.lt_of_lt_of_le hx (Nat.pow_le_pow_right (by decide) (Nat.le_add_right _ _)))
    rw [this]; exact Bool.false_ne_true
  rw [h2, List.append_nil]

/-- the squares within a number of moves, by the reference's numbers -/
def within (r c : Nat) (o : List Int) (q : Nat) : List Nat := (List.range (r * c)).filter fun t => decide (0 ≤ o.getD t 0) && decide (o.getD t 0 ≤ (q : Int))

theorem fn42 {pg : Pg} (hF : Free pg) {r c a : Nat} (h : Brd r c) (ha : a < r * c) (q : Int) :
    if q < 0 ∨ 40 < q then PFn pg 42 [.i .i64 (r : Int), .i .i64 (c : Int), .i .i64 (a : Int), .i .i64 q] (.tup [.nilsl, .i .i64 1])
    else ∃ m, front r c a m = 0 ∧ PFn pg 42 [.i .i64 (r : Int), .i .i64 (c : Int), .i .i64 (a : Int), .i .i64 q] (.tup [elI.lt false (nI (mem64 (rd r c a q.toNat m))), .i .i64 0]) := by
  have hn := h.n36
  obtain ⟨H0, hH0⟩ : ∃ H0 : Heap, H0 = [.cells [.i .i64 q] false, .cells [.i .i64 (a : Int)] false] := ⟨_, rfl⟩
  have hv : elI.View H0 (.sl 1 0 1 false 1 (some 1)) [(a : Int)] := by rw [hH0]; exact one_view [.cells [.i .i64 q] false] _
  obtain ⟨H1, h1, h2, h3, h4⟩ := body59 hF h hv (by simp)
  have hno : [(a : Int)].any (outB ((r * c : Nat) : Int)) = false := by rw [List.any_cons, inB ha]; rfl
  have hl0 : H0.length = 2 := by rw [hH0]; rfl
  rw [hno, hl0] at h1
  rw [hl0] at h2 h3 h4
  simp only [Bool.false_eq_true, if_false] at h1
  have hd : pg.F 42 = some d42 := by rw [hF.F]; rfl
  have kb : dkc pg (den pg) (.bsl false [.i .i64 0] false 1 [0]) [.i .i64 (a : Int)] [.cells [.i .i64 q] false] = some (.sl 1 0 1 false 1 (some 1), H0) := by rw [k_bsl1, hH0]; rfl
  have h10 : H1[0]? = some (.cells [.i .i64 q] false) := by rw [h4 0 (by omega), hH0]; rfl
  have l0 := ld_box (pg := pg) (R := den pg) h10 rfl
  split
  · rename_i hq
    refine .of2 (x := .ret) (e := [(8, .nilsl), (9, .i .i64 1)]) (H' := H1) (vs := [.nilsl, .i .i64 1]) (hF.S _ _ (by decide)) hd rfl ?_ (.inl rfl) rfl (by simp) (by simp [sn_i, sn_b, sn_nil, sn8_i, sn8_b, sn8_nil, sn7_i, sn7_b, sn_sl, sn8_sl, slB_some, sn_tup, sn_agg, sn8_agg, mapO, elems])
    by_cases q1 : q < 0
    · simp (disch := omega) [d42, c42, zipE, go_nil, go_last, go_past, go_pastR, go_blkN, go_blkR, go_blkE, go_skip, go_exit, go_ret, go_scope, go_seq, go_reg, go_regd, go_opdN, go_opd, go_opdG, grdd_b, grdd_u, stpd_some, find_some, go_block, go_cond, cnd_b, go_opsN, go_ops, go_opsG, grd_b, grd_u, stp_some, fin_some, up_some, cont_some, k_call, k_mv, k_pick, k_bin, k_eqB, k_eqA, k_not, k_neg, k_conv, k_alloc, k_boxA, k_boxI, k_boxB, k_boxN, k_boxBs, k_ldR, k_ldA, k_ldI, k_ldB, k_stA, k_stI, k_stB, ldC_some, stC_some, k_mkfn, k_slc, k_slcA, k_ixA, k_ixBs, k_ixSl, k_fadr, k_fld, k_ext, k_len, k_app, k_mn, k_mx, k_nilck, k_build, k_bsl1, k_bsl2, b_add, b_sub, b_mul, b_eql, b_neq, b_lss, b_leq, b_gtr, b_geq, Dn.setLast, Dn.getLast, evalO, mapO, Dn.get, putE, keepE_nil, keepE_cons, kp_some, kp_none, TV.one, TV.isAgg, Dn.part, negb, at0, at1, at2, at3, at4, dT, dF, wrapR_i64, Option.bind_some, Option.map_some, kb, sh_fn, h1, q1, l0]
    · simp (disch := omega) [d42, c42, zipE, go_nil, go_last, go_past, go_pastR, go_blkN, go_blkR, go_blkE, go_skip, go_exit, go_ret, go_scope, go_seq, go_reg, go_regd, go_opdN, go_opd, go_opdG, grdd_b, grdd_u, stpd_some, find_some, go_block, go_cond, cnd_b, go_opsN, go_ops, go_opsG, grd_b, grd_u, stp_some, fin_some, up_some, cont_some, k_call, k_mv, k_pick, k_bin, k_eqB, k_eqA, k_not, k_neg, k_conv, k_alloc, k_boxA, k_boxI, k_boxB, k_boxN, k_boxBs, k_ldR, k_ldA, k_ldI, k_ldB, k_stA, k_stI, k_stB, ldC_some, stC_some, k_mkfn, k_slc, k_slcA, k_ixA, k_ixBs, k_ixSl, k_fadr, k_fld, k_ext, k_len, k_app, k_mn, k_mx, k_nilck, k_build, k_bsl1, k_bsl2, b_add, b_sub, b_mul, b_eql, b_neq, b_lss, b_leq, b_gtr, b_geq, Dn.setLast, Dn.getLast, evalO, mapO, Dn.get, putE, keepE_nil, keepE_cons, kp_some, kp_none, TV.one, TV.isAgg, Dn.part, negb, at0, at1, at2, at3, at4, dT, dF, wrapR_i64, Option.bind_some, Option.map_some, kb, sh_fn, h1, q1, l0]
  · rename_i hq
    obtain ⟨qn, rfl⟩ : ∃ k : Nat, q = (k : Int) := ⟨q.toNat, by omega⟩
    rw [Int.toNat_natCast]
    obtain ⟨N, hN, hz⟩ := lv_end h ha
    obtain ⟨A, hA⟩ : ∃ A, A = H1.length := ⟨_, rfl⟩
    obtain ⟨H2, hH2⟩ : ∃ H2 : Heap, H2 = H1 ++ [.cells [.i .u64 0] false] := ⟨_, rfl⟩
    have hl2 : H2.length = A + 1 := by rw [hH2, hA]; simp
    obtain ⟨H3, hH3⟩ : ∃ H3 : Heap, H3 = H2 ++ [.cells [.ref 2 0] false, .cells [.i .i64 (a : Int)] false] := ⟨_, rfl⟩
    have hl3 : H3.length = A + 3 := by rw [hH3]; simp [hl2]
    have b73 := body73G (pg := pg) hF (x := .ref 2 0) rfl (a : Int) H2
    rw [← hH3, hl2] at b73
    have st0 : dkc pg (den pg) (.st 1) [.ref A 0, .i .u64 0] H2 = some (.undef, H2) := by
      have := st_box (pg := pg) (R := den pg) (H := H2) (id := A) (u := .i .u64 0) (v := .i .u64 0) (ag := false) (by rw [hH2, hA]; exact getLast _ _) rfl
      rw [this]
      congr 2
      rw [hH2, hA, Dn.setLast]
    have k3 : ∀ j, j < A + 1 → H3[j]? = H2[j]? := fun j hj => by rw [hH3, List.getElem?_append_left (by omega)]
    have k2 : ∀ j, j < A → H2[j]? = H1[j]? := fun j hj => by rw [hH2, List.getElem?_append_left (by omega)]
    have hA2 : 2 < A := by omega
    obtain ⟨L, hL⟩ : ∃ L, L = lp2 a42_0 b42_1 [35, 36] [7, 12] [(7, .ref 0 0), (12, .ref A 0), (34, .fn 95 [] [.ref (A + 1 + 1) 0, .ref (A + 1) 0])] := ⟨_, rfl⟩
    have hS0 : RdS r c a qn A (A + 3) (H3 ++ [.loop L]) 0 := by
      have kk : ∀ j, j < A + 3 → (H3 ++ [.loop L])[j]? = H3[j]? := fun j hj => by rw [List.getElem?_append_left (by omega)]
      refine ⟨by rw [kk 0 (by omega), k3 0 (by omega), k2 0 (by omega)]; exact h10, by rw [kk 2 (by omega), k3 2 (by omega), k2 2 (by omega)]; exact h2, ?_, ?_, by simp [hl3]⟩
      · rw [kk A (by omega), k3 A (by omega), hH2, hA, getLast]; rfl
      · rw [kk (A + 1) (by omega), hH3, List.getElem?_append_right (by omega), hl2, Nat.sub_self]; rfl
    rcases rngLG hF (f := 34) (s := A + 1 + 1) (bc := A + 1) (p := 35) (q := 36) (BV := .ref 2 0) rfl (as_ := a42_0) (bd := b42_1) (ks := [7, 12]) (e := [(7, .ref 0 0), (12, .ref A 0), (34, .fn 95 [] [.ref (A + 1 + 1) 0, .ref (A + 1) 0])]) (H := H3) h ha (N := N) (by omega) hz rfl
        (by rw [hH3, List.getElem?_append_right (by omega), hl2, show A + 1 + 1 - (A + 1) = 1 by omega]; rfl) (by rw [hH3, List.getElem?_append_right (by omega), hl2, Nat.sub_self]; rfl)
        (P := fun n H => RdS r c a qn A (A + 3) H n) (Q := fun _ _ => False) (by rw [← hL]; exact hS0) (fun n H hS => Bv.ref hS.board) (by rw [hl3, ← hL]; exact rd_round hF h ha hA2 rfl hL rfl) with ⟨H4, m, r1, r2, r3⟩ | ⟨_, _, _, _, hf⟩
    · have r3' : front r c a m = 0 := r3
      rw [hl3, ← hL, show keepE [7, 12] ([(7, .ref 0 0), (12, .ref A 0), (34, .fn 95 [] [.ref (A + 1 + 1) 0, .ref (A + 1) 0])] : Env) = [(7, .ref 0 0), (12, .ref A 0)] from rfl] at r1
      obtain ⟨H5, hH5⟩ : ∃ H5, H5 = H4.set (A + 3) (.loop { L with st := .exhausted }) := ⟨_, rfl⟩
      rw [← hH5] at r1
      have r2' : RdS r c a qn A (A + 3) H5 m := by rw [hH5]; exact r2.set hA2 rfl _
      have lo := ld_box (pg := pg) (R := den pg) r2'.out rfl
      have hlt := rd_lt (q := qn) h ha m
      have h64 := lv64 h
      have c64 := PFn.call (body64c hF (x := rd r c a qn m) (by omega)) (args := [.i .u64 (rd r c a qn m : Int)]) (ks := []) (fs := []) (cs := []) (H := H5) (by simp [snapArgs, sn_i])
      refine ⟨m, r3', .of2 (x := .ret) (e := [(8, elI.lt false (nI (mem64 (rd r c a qn m)))), (9, .i .i64 0)]) (H' := H5) (vs := [elI.lt false (nI (mem64 (rd r c a qn m))), .i .i64 0]) (hF.S _ _ (by decide)) hd rfl ?_ (.inl rfl) rfl (by simp) ?_⟩
      · generalize elI.lt false (nI (mem64 (rd r c a qn m))) = LL at *
        generalize rd r c a qn m = X at *
        have q1 : decide ((qn : Int) < 0) = false := dF (by omega)
        have q2 : decide (40 < (qn : Int)) = false := dF (by omega)
        have eA : H1.length = A := hA.symm
        simp [d42, c42, zipE, go_nil, go_last, go_past, go_pastR, go_blkN, go_blkR, go_blkE, go_skip, go_exit, go_ret, go_scope, go_seq, go_reg, go_regd, go_opdN, go_opd, go_opdG, grdd_b, grdd_u, stpd_some, find_some, go_block, go_cond, cnd_b, go_opsN, go_ops, go_opsG, grd_b, grd_u, stp_some, fin_some, up_some, cont_some, k_call, k_mv, k_pick, k_bin, k_eqB, k_eqA, k_not, k_neg, k_conv, k_alloc, k_boxA, k_boxI, k_boxB, k_boxN, k_boxBs, k_ldR, k_ldA, k_ldI, k_ldB, k_stA, k_stI, k_stB, ldC_some, stC_some, k_mkfn, k_slc, k_slcA, k_ixA, k_ixBs, k_ixSl, k_fadr, k_fld, k_ext, k_len, k_app, k_mn, k_mx, k_nilck, k_build, k_bsl1, k_bsl2, b_add, b_sub, b_mul, b_eql, b_neq, b_lss, b_leq, b_gtr, b_geq, Dn.setLast, Dn.getLast, evalO, mapO, Dn.get, putE, keepE, TV.one, TV.isAgg, Dn.part, kb, sh_fn, h1, q1, q2, l0, eA, ← hH2, st0, b73, r1, lo, c64]
      · have : snap .fin H5 8 (elI.lt false (nI (mem64 (rd r c a qn m)))) = some (elI.lt false (nI (mem64 (rd r c a qn m)))) := snap_intsF H5 6 _
        simp [mapO, this, sn8_i]
    · exact hf.elim

/-! the reference -/
end Go.Proofs.Tryd.Dn

/-
  Knight: the law of rides, run.
-/

namespace Go.Proofs.Tryd.Dn
open Go.Dn

end Go.Proofs.Tryd.Dn

