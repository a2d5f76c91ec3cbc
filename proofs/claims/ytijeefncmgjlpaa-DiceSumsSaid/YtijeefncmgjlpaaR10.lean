/-
  Dice: sums: the law run.
-/
import Derived.Test.YtijeefncmgjlpaaT6
import Derived.Test.YtijeefncmgjlpaaR6
import Derived.Test.YtijeefncmgjlpaaEa
set_option linter.unusedSimpArgs false
set_option linter.unusedVariables false

set_option maxHeartbeats 4000000
set_option maxRecDepth 100000
namespace Go.Proofs.Try.Dn
open Go.Dn

theorem eqA2 {pg : Pg} (a b : Int) (H : Heap) : dkc pg (den pg) (.eqA true [true, true]) [.agg [.i .i64 a, .i .i64 b], .agg [.i .i64 a, .i .i64 b]] H = some (.b false, H) := by
  rw [k_eqA]
  simp [eqL, eqS, up, negb]

theorem ixQ {pg : Pg} {H : Heap} {l : List (Int × Int)} {i : Nat} {x : Int × Int} (hx : l[i]? = some x) : ∃ p, dkc pg (den pg) (.ixS 2 true) [elQ.lt false l, .i .i64 (i : Int)] H = some (p, H) ∧ dkc pg (den pg) (.ld 2 true) [p] H = some (.agg [.i .i64 x.1, .i .i64 x.2], H) := by
  obtain ⟨p, h1, h2, _⟩ := (ltV elQ false H l).ix (pg := pg) (R := den pg) hx .i64
  exact ⟨p, h1, h2.ld⟩

theorem lnE {α : Type} (E : El α) (l : List α) (K : Heap) : (lenK 0 (E.lt false l) K).map (fun (n : Nat) => TV.i .i64 (n : Int)) = some (.i .i64 (l.length : Int)) := by
  rw [(ltV E false K l).lenK]; rfl

theorem l10_1_all {pg : Pg} {N X : TV} {l : List (Int × Int)} (hl : l.length ≤ 1000) : ∀ (r i : Nat), i + r = l.length →
    ∃ e, den pg l10_1 [(1, N), (5, X), (8, elQ.lt false l), (10, elQ.lt false l), (11, .i .i64 (i : Int))] [] = some ⟨.exit 0, (1, N) :: (5, X) :: e, []⟩
  | 0, i, hi => by
    obtain rfl : i = l.length := by omega
    have ln := lnE elQ l
    refine ⟨[(8, elQ.lt false l), (10, elQ.lt false l), (11, .i .i64 (l.length : Int)), (53, .b false)], ?_⟩
    generalize elQ.lt false l = S at *
    generalize (l.length : Int) = M at *
    rw [l10_1, den_loop]
    simp (disch := omega) [b10_0, go_nil, go_last, go_past, go_pastR, go_blkN, go_blkR, go_blkE, go_skip, go_exit, go_ret, go_scope, go_seq, go_reg, go_regd, go_opdN, go_opd, go_opdG, grdd_b, grdd_u, stpd_some, find_some, go_block, go_cond, cnd_b, go_opsN, go_ops, go_opsG, grd_b, grd_u, stp_some, fin_some, up_some, cont_some, k_call, k_mv, k_pick, k_bin, k_eqB, k_eqA, k_not, k_neg, k_conv, k_alloc, k_boxA, k_boxI, k_boxB, k_boxN, k_boxBs, k_ldR, k_ldA, k_ldI, k_ldB, k_stA, k_stI, k_stB, ldC_some, stC_some, k_mkfn, k_slc, k_slcA, k_ixA, k_ixBs, k_ixSl, k_fadr, k_fld, k_ext, k_len, k_app, k_mn, k_mx, k_nilck, k_build, k_bsl1, k_bsl2, b_add, b_sub, b_mul, b_eql, b_neq, b_lss, b_leq, b_gtr, b_geq, Dn.setLast, Dn.getLast, evalO, mapO, Dn.get, putE, keepE_nil, keepE_cons, kp_some, kp_none, TV.one, TV.isAgg, Dn.part, k_boxR, negb, at0, at1, at2, at3, at4, dT, dF, wrapR_i64, Option.bind_some, Option.map_some, ln]
  | r + 1, i, hi => by
    have ln := lnE elQ l
    obtain ⟨x, hx⟩ : ∃ x, l[i]? = some x := ⟨_, List.getElem?_eq_getElem (by omega)⟩
    obtain ⟨p, p1, p2⟩ := ixQ (pg := pg) (H := []) hx
    have eq := eqA2 (pg := pg) x.1 x.2 []
    have w2 : wrapR .i64 ((i : Int) + 1) = .i .i64 ((i + 1 : Nat) : Int) := by rw [← Int.natCast_succ]; exact wrapR_i64 (by omega)
    have dd : decide ((i : Int) < (l.length : Int)) = true := dT (by omega)
    obtain ⟨e, r1⟩ := l10_1_all (pg := pg) (N := N) (X := X) hl r (i + 1) (by omega)
    refine ⟨e, Eq.trans ?_ r1⟩
    generalize TV.agg [.i .i64 x.1, .i .i64 x.2] = V at *
    generalize elQ.lt false l = S at *
    generalize ((i + 1 : Nat) : Int) = I2 at *
    generalize (i : Int) = I at *
    generalize (l.length : Int) = M at *
    rw [l10_1, den_loop]
    simp (disch := omega) [l10_1, b10_0, go_nil, go_last, go_past, go_pastR, go_blkN, go_blkR, go_blkE, go_skip, go_exit, go_ret, go_scope, go_seq, go_reg, go_regd, go_opdN, go_opd, go_opdG, grdd_b, grdd_u, stpd_some, find_some, go_block, go_cond, cnd_b, go_opsN, go_ops, go_opsG, grd_b, grd_u, stp_some, fin_some, up_some, cont_some, k_call, k_mv, k_pick, k_bin, k_eqB, k_eqA, k_not, k_neg, k_conv, k_alloc, k_boxA, k_boxI, k_boxB, k_boxN, k_boxBs, k_ldR, k_ldA, k_ldI, k_ldB, k_stA, k_stI, k_stB, ldC_some, stC_some, k_mkfn, k_slc, k_slcA, k_ixA, k_ixBs, k_ixSl, k_fadr, k_fld, k_ext, k_len, k_app, k_mn, k_mx, k_nilck, k_build, k_bsl1, k_bsl2, b_add, b_sub, b_mul, b_eql, b_neq, b_lss, b_leq, b_gtr, b_geq, Dn.setLast, Dn.getLast, evalO, mapO, Dn.get, putE, keepE_nil, keepE_cons, kp_some, kp_none, TV.one, TV.isAgg, Dn.part, k_boxR, negb, at0, at1, at2, at3, at4, dT, dF, wrapR_i64, Option.bind_some, Option.map_some, ln, dd, p1, p2, eq, w2]

theorem l10_3_all {pg : Pg} (hF : Free pg) {X : TV} {ls : List (List Int)} (hX : SSV X ls) (hl : ls.length ≤ 6) (hD : ∀ d ∈ ls, DieL 60 d) (h0 : chkD ls = 0) : ∀ (r k : Nat) (n : Int), k + r = 2 →
    ∃ e, den pg l10_3 [(1, .i .i64 n), (5, X), (12, elI.lt false (refW ls)), (13, .i .i64 (k : Int))] [] = some ⟨.exit 2, e, []⟩
  | 0, k, n, hk => by
    obtain rfl : k = 2 := by omega
    refine ⟨[(1, .i .i64 n), (5, X), (12, elI.lt false (refW ls)), (13, .i .i64 2), (68, .b false)], ?_⟩
    generalize elI.lt false (refW ls) = W at *
    rw [l10_3, den_loop]
    simp (disch := omega) [b10_2, go_nil, go_last, go_past, go_pastR, go_blkN, go_blkR, go_blkE, go_skip, go_exit, go_ret, go_scope, go_seq, go_reg, go_regd, go_opdN, go_opd, go_opdG, grdd_b, grdd_u, stpd_some, find_some, go_block, go_cond, cnd_b, go_opsN, go_ops, go_opsG, grd_b, grd_u, stp_some, fin_some, up_some, cont_some, k_call, k_mv, k_pick, k_bin, k_eqB, k_eqA, k_not, k_neg, k_conv, k_alloc, k_boxA, k_boxI, k_boxB, k_boxN, k_boxBs, k_ldR, k_ldA, k_ldI, k_ldB, k_stA, k_stI, k_stB, ldC_some, stC_some, k_mkfn, k_slc, k_slcA, k_ixA, k_ixBs, k_ixSl, k_fadr, k_fld, k_ext, k_len, k_app, k_mn, k_mx, k_nilck, k_build, k_bsl1, k_bsl2, b_add, b_sub, b_mul, b_eql, b_neq, b_lss, b_leq, b_gtr, b_geq, Dn.setLast, Dn.getLast, evalO, mapO, Dn.get, putE, keepE_nil, keepE_cons, kp_some, kp_none, TV.one, TV.isAgg, Dn.part, k_boxR, negb, at0, at1, at2, at3, at4, dT, dF, wrapR_i64, Option.bind_some, Option.map_some]
  | r + 1, k, n, hk => by
    obtain ⟨X', s1, hX'⟩ := hX.snap [] 6
    have c47 := PFn.call (fn47 (pg := pg) hF hX' h0 n) (args := [X, .i .i64 n]) (ks := []) (fs := []) (cs := []) (H := []) (by simp [snapArgs, s1, sn_i])
    have hlen : (refW ls).length = mxS ls := gL_len _ _
    have ln : ∀ K, (lenK 0 (elI.lt false (refW ls)) K).map (fun (n : Nat) => TV.i .i64 (n : Int)) = some (.i .i64 (mxS ls : Int)) := fun K => by rw [lnE, hlen]
    have hM := mxS_le hD
    have hM1 : 1 ≤ mxS ls := by unfold mxS; omega
    obtain ⟨w, m, f1, f2, f3, f4⟩ := conv_rem n (n := mxS ls) hM1 (by omega)
    have w3 : wrapR .u64 (mxS ls : Int) = .i .u64 (mxS ls : Int) := wrap_u (by omega)
    have w2 : wrapR .i64 ((k : Int) + 1) = .i .i64 ((k + 1 : Nat) : Int) := by rw [← Int.natCast_succ]; exact wrapR_i64 (by omega)
    have dd : decide ((k : Int) < 2) = true := dT (by omega)
    obtain ⟨e, r1⟩ := l10_3_all (pg := pg) hF hX hl hD h0 r (k + 1) (m : Int) (by omega)
    refine ⟨e, Eq.trans ?_ r1⟩
    have hW : wn ls n ≠ 0 → 0 ≤ n ∧ n < (mxS ls : Int) := fun h => by
      have := wn_mx hD ls.length (Nat.le_refl _) n (by rw [List.take_length]; exact h)
      rw [List.take_length] at this
      exact this
    by_cases h1 : 0 ≤ n
    · by_cases h2 : n < (mxS ls : Int)
      · have hx : (refW ls)[n.toNat]? = some ((wn ls n : Nat) : Int) := by
          have : (refW ls)[n.toNat]? = some ((wn ls ((n.toNat : Nat) : Int) : Nat) : Int) := gL_at (by omega)
          rw [show ((n.toNat : Nat) : Int) = n by omega] at this
          exact this
        obtain ⟨p, p1, p2⟩ := ixI (pg := pg) (R := den pg) (ltV elI false [] (refW ls)) hx
        rw [show ((n.toNat : Nat) : Int) = n by omega] at p1
        have d1 : decide (n ≥ 0) = true := dT h1
        have d1' : decide (0 ≤ n) = true := dT h1
        have d2 : decide (n < (mxS ls : Int)) = true := dT h2
        clear hW hlen hx f3 hM hM1 hk hX hX' hl hD h0 s1
        generalize ((wn ls n : Nat) : Int) = Z at *
        generalize elI.lt false (refW ls) = W at *
        generalize (mxS ls : Int) = M at *
        generalize ((k + 1 : Nat) : Int) = K2 at *
        generalize (k : Int) = K at *
        generalize (m : Int) = m at *
        generalize (w : Int) = w at *
        clear h1 h2
        rw [l10_3, den_loop]
        simp (disch := omega) [l10_3, b10_2, go_nil, go_last, go_past, go_pastR, go_blkN, go_blkR, go_blkE, go_skip, go_exit, go_ret, go_scope, go_seq, go_reg, go_regd, go_opdN, go_opd, go_opdG, grdd_b, grdd_u, stpd_some, find_some, go_block, go_cond, cnd_b, go_opsN, go_ops, go_opsG, grd_b, grd_u, stp_some, fin_some, up_some, cont_some, k_call, k_mv, k_pick, k_bin, k_eqB, k_eqA, k_not, k_neg, k_conv, k_alloc, k_boxA, k_boxI, k_boxB, k_boxN, k_boxBs, k_ldR, k_ldA, k_ldI, k_ldB, k_stA, k_stI, k_stB, ldC_some, stC_some, k_mkfn, k_slc, k_slcA, k_ixA, k_ixBs, k_ixSl, k_fadr, k_fld, k_ext, k_len, k_app, k_mn, k_mx, k_nilck, k_build, k_bsl1, k_bsl2, b_add, b_sub, b_mul, b_eql, b_neq, b_lss, b_leq, b_gtr, b_geq, Dn.setLast, Dn.getLast, evalO, mapO, Dn.get, putE, keepE_nil, keepE_cons, kp_some, kp_none, TV.one, TV.isAgg, Dn.part, k_boxR, negb, at0, at1, at2, at3, at4, dT, dF, wrapR_i64, Option.bind_some, Option.map_some, c47, ln, p1, p2, d1, d1', d2, dd, w2, w3, f1, f2, f4]
      · have hz : wn ls n = 0 := Classical.byContradiction fun h => by have := hW h; omega
        rw [hz] at c47
        have d1 : decide (n ≥ 0) = true := dT h1
        have d1' : decide (0 ≤ n) = true := dT h1
        have d2 : decide (n < (mxS ls : Int)) = false := by simpa using h2
        clear hW hlen f3 hM hM1 hk hX hX' hl hD h0 s1 hz
        simp only [Int.natCast_zero] at c47
        generalize elI.lt false (refW ls) = W at *
        generalize (mxS ls : Int) = M at *
        generalize ((k + 1 : Nat) : Int) = K2 at *
        generalize (k : Int) = K at *
        generalize (m : Int) = m at *
        generalize (w : Int) = w at *
        clear h1 h2
        rw [l10_3, den_loop]
        simp (disch := omega) [l10_3, b10_2, go_nil, go_last, go_past, go_pastR, go_blkN, go_blkR, go_blkE, go_skip, go_exit, go_ret, go_scope, go_seq, go_reg, go_regd, go_opdN, go_opd, go_opdG, grdd_b, grdd_u, stpd_some, find_some, go_block, go_cond, cnd_b, go_opsN, go_ops, go_opsG, grd_b, grd_u, stp_some, fin_some, up_some, cont_some, k_call, k_mv, k_pick, k_bin, k_eqB, k_eqA, k_not, k_neg, k_conv, k_alloc, k_boxA, k_boxI, k_boxB, k_boxN, k_boxBs, k_ldR, k_ldA, k_ldI, k_ldB, k_stA, k_stI, k_stB, ldC_some, stC_some, k_mkfn, k_slc, k_slcA, k_ixA, k_ixBs, k_ixSl, k_fadr, k_fld, k_ext, k_len, k_app, k_mn, k_mx, k_nilck, k_build, k_bsl1, k_bsl2, b_add, b_sub, b_mul, b_eql, b_neq, b_lss, b_leq, b_gtr, b_geq, Dn.setLast, Dn.getLast, evalO, mapO, Dn.get, putE, keepE_nil, keepE_cons, kp_some, kp_none, TV.one, TV.isAgg, Dn.part, k_boxR, negb, at0, at1, at2, at3, at4, dT, dF, wrapR_i64, Option.bind_some, Option.map_some, c47, ln, d1, d1', d2, dd, w2, w3, f1, f2, f4]
    · have hz : wn ls n = 0 := Classical.byContradiction fun h => by have := hW h; omega
      rw [hz] at c47
      have d1 : decide (n ≥ 0) = false := by simpa using h1
      have d1' : decide (0 ≤ n) = false := by simpa using h1
      clear hW hlen f3 hM hM1 hk hX hX' hl hD h0 s1 hz
      simp only [Int.natCast_zero] at c47
      generalize elI.lt false (refW ls) = W at *
      generalize (mxS ls : Int) = M at *
      generalize ((k + 1 : Nat) : Int) = K2 at *
      generalize (k : Int) = K at *
      generalize (m : Int) = m at *
      generalize (w : Int) = w at *
      clear h1
      rw [l10_3, den_loop]
      simp (disch := omega) [l10_3, b10_2, go_nil, go_last, go_past, go_pastR, go_blkN, go_blkR, go_blkE, go_skip, go_exit, go_ret, go_scope, go_seq, go_reg, go_regd, go_opdN, go_opd, go_opdG, grdd_b, grdd_u, stpd_some, find_some, go_block, go_cond, cnd_b, go_opsN, go_ops, go_opsG, grd_b, grd_u, stp_some, fin_some, up_some, cont_some, k_call, k_mv, k_pick, k_bin, k_eqB, k_eqA, k_not, k_neg, k_conv, k_alloc, k_boxA, k_boxI, k_boxB, k_boxN, k_boxBs, k_ldR, k_ldA, k_ldI, k_ldB, k_stA, k_stI, k_stB, ldC_some, stC_some, k_mkfn, k_slc, k_slcA, k_ixA, k_ixBs, k_ixSl, k_fadr, k_fld, k_ext, k_len, k_app, k_mn, k_mx, k_nilck, k_build, k_bsl1, k_bsl2, b_add, b_sub, b_mul, b_eql, b_neq, b_lss, b_leq, b_gtr, b_geq, Dn.setLast, Dn.getLast, evalO, mapO, Dn.get, putE, keepE_nil, keepE_cons, kp_some, kp_none, TV.one, TV.isAgg, Dn.part, k_boxR, negb, at0, at1, at2, at3, at4, dT, dF, wrapR_i64, Option.bind_some, Option.map_some, c47, ln, d1, d1', dd, w2, w3, f1, f2, f4]

theorem run10 {pg : Pg} (hF : Free pg) (hQ96 : pg.Q 96 = some 2) (h23 : PFn pg 23 [] (.b true)) {T : TV} {l : List (List Int)} (hT : SSV T l) (hl : l.length ≤ 9223372036854775807) (hL : ∀ x ∈ l, x.length ≤ 9223372036854775807) (n : Int) : ∃ H, bodyRun pg (den pg) 10 [T, .i .i64 n] [] = some (.b true, H) := by
  obtain ⟨ls, hr, c28⟩ := call28 (pg := pg) hF hT hl hL (many := 6) (most := 60) (by omega) (by omega) (by omega) []
  have c23 := PFn.call h23 (args := []) (ks := []) (fs := []) (cs := []) (H := []) (by simp [snapArgs])
  have hlen := hr.le
  have hD := hr.all
  have hX := elR_SSV false false ls
  have h0 := chk_row hr (by omega) (by omega)
  generalize (elR false).lt false ls = X at *
  obtain ⟨X', s1, hX'⟩ := snapSSV hX []
  have sx : snapArgs [] [] ([] ++ [X] ++ []) = some [X'] := by simpa using s1
  have c42 := PFn.call (fn42 (pg := pg) hF hX' h0) (args := [X]) (ks := []) (fs := []) (cs := []) sx
  have c43 := PFn.call (fn43 (pg := pg) hF hQ96 hX' h0) (args := [X]) (ks := []) (fs := []) (cs := []) sx
  have c44 := PFn.call (fn44 (pg := pg) hF hX' hlen hD) (args := [X]) (ks := []) (fs := []) (cs := []) sx
  have c45 := PFn.call (fn45 (pg := pg) hF hX' hlen fun d hd => (hD d hd).le) (args := [X]) (ks := []) (fs := []) (cs := []) sx
  have c46 := PFn.call (fn46 (pg := pg) hF hX' hlen hD) (args := [X]) (ks := []) (fs := []) (cs := []) sx
  have hS : (sumsL ls).length ≤ 1000 := Nat.le_trans (sumsN_len ls 361) (by omega)
  obtain ⟨e1, r1⟩ := l10_1_all (pg := pg) (N := .i .i64 n) (X := X) hS (sumsL ls).length 0 (by omega)
  obtain ⟨e2, r2⟩ := l10_3_all (pg := pg) hF hX hlen hD h0 2 0 n (by omega)
  have ln := lnE elQ (sumsL ls)
  refine ⟨[], body_of (x := .ret) (e := [(4, .b true)]) (d := d10) (by rw [hF.F]; rfl) rfl ?_ (.inl rfl) rfl⟩
  simp only [Int.natCast_zero, Int.cast_ofNat_Int] at r1 r2 c28
  clear hX hX' s1 sx hS h0 hD hr
  generalize elQ.lt false (sumsL ls) = S at *
  generalize elI.lt false (refW ls) = W at *
  generalize ((sumsL ls).length : Int) = M at *
  generalize ((lenP ls : Nat) : Int) = P at *
  simp (maxSteps := 1000000) (disch := omega) [d10, c10, zipE, go_nil, go_last, go_past, go_pastR, go_blkN, go_blkR, go_blkE, go_skip, go_exit, go_ret, go_scope, go_seq, go_reg, go_regd, go_opdN, go_opd, go_opdG, grdd_b, grdd_u, stpd_some, find_some, go_block, go_cond, cnd_b, go_opsN, go_ops, go_opsG, grd_b, grd_u, stp_some, fin_some, up_some, cont_some, k_call, k_mv, k_pick, k_bin, k_eqB, k_eqA, k_not, k_neg, k_conv, k_alloc, k_boxA, k_boxI, k_boxB, k_boxN, k_boxBs, k_ldR, k_ldA, k_ldI, k_ldB, k_stA, k_stI, k_stB, ldC_some, stC_some, k_mkfn, k_slc, k_slcA, k_ixA, k_ixBs, k_ixSl, k_fadr, k_fld, k_ext, k_len, k_app, k_mn, k_mx, k_nilck, k_build, k_bsl1, k_bsl2, b_add, b_sub, b_mul, b_eql, b_neq, b_lss, b_leq, b_gtr, b_geq, Dn.setLast, Dn.getLast, evalO, mapO, Dn.get, putE, keepE_nil, keepE_cons, kp_some, kp_none, TV.one, TV.isAgg, Dn.part, k_boxR, negb, at0, at1, at2, at3, at4, dT, dF, wrapR_i64, Option.bind_some, Option.map_some, c28, c42, c43, c44, c45, c46, ln, go_denK (c := l10_1) rfl, go_denK (c := l10_3) rfl, r1, r2, c23]

end Go.Proofs.Try.Dn

