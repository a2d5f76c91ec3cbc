/-
  Knight: the laws of quiet knights, run.
-/
import Derived.Test.YtdjbpmgbaggfbaaDoorKfh
import Derived.Test.YtdjbpmgbaggfbaaDoorKf
set_option linter.unusedSimpArgs false
set_option linter.unusedVariables false

namespace Go.Proofs.Tryd.Dn
open Go.Dn

theorem conv_remB (v : Int) {n : Nat} (hn : 1 ≤ n) (hb : n ≤ 9223372036854775807) : ∃ w m : Nat, wrapR .u64 v = .i .u64 (w : Int) ∧ binI .rem (.i .u64 (w : Int)) (.i .u64 (n : Int)) = some (.i .u64 (m : Int)) ∧ m < n ∧ wrapR .i64 (m : Int) = .i .i64 (m : Int) := by
  obtain ⟨w, hw⟩ : ∃ w : Nat, IntKind.wrap .u64 v = (w : Int) := ⟨(IntKind.wrap .u64 v).toNat, by simp only [IntKind.wrap, IntKind.signed, IntKind.bits, Bool.false_and, Bool.false_eq_true, if_false]; omega⟩
  have hm : w % n < n := Nat.mod_lt _ (by omega)
  refine ⟨w, w % n, by unfold wrapR; rw [hw], ?_, hm, wrapR_i64 (by omega)⟩
  rw [b_rem, if_neg (by omega), tmod_nat w n]

theorem quiet_facts {r c : Nat} (h : Brd r c) : quietB r c (quietS r c) = true ∧ pop 64 (quietS r c) + pairN r c (colM r c 0) (colM r c 1) = r * c ∧ (pairsOf r c).length = pairN r c (colM r c 0) (colM r c 1) ∧ pairOk r c (pairsOf r c) = true ∧ (r < 3 ∨ c < 3 ∨ pop 64 (quietS r c) = (r * c + 1) / 2) := by
  have := h.ok quiet_ev
  unfold quietOk at this
  simp only [Bool.and_eq_true, Bool.or_eq_true, decide_eq_true_eq] at this
  obtain ⟨⟨⟨⟨a1, a2⟩, a3⟩, a4⟩, a5⟩ := this
  refine ⟨a1, a2, a3, a4, ?_⟩
  rcases a5 with (a5 | a5) | a5
  · exact .inl a5
  · exact .inr (.inl a5)
  · exact .inr (.inr a5)

set_option maxRecDepth 100000 in
theorem run12 {pg : Pg} (hF : Free pg) (h25 : PFn pg 25 [] (.b true)) (x y s : Int) : ∃ H, bodyRun pg (den pg) 12 [.i .i64 x, .i .i64 y, .i .i64 s] [] = some (.b true, H) := by
  obtain ⟨r, c, h, c18⟩ := call18 hF x y
  have hn := h.n36
  have h63 := lt63 h
  obtain ⟨hcast, wn⟩ := rc_facts h
  obtain ⟨f1, f2, f3, f4, f5⟩ := quiet_facts h
  have hp : 1 ≤ 2 ^ (r * c) := Nat.one_le_two_pow
  obtain ⟨wx, t, t1, t2, t3, t4⟩ := conv_remB s hp (by omega)
  have c25 := fun H => PFn.call h25 (args := []) (ks := []) (fs := []) (cs := []) (H := H) (by simp [snapArgs])
  have c45 := fun H => PFn.at (fn45 hF h) (fun H => sa_I (sa_I sa_0)) H
  have c46 := fun H => PFn.at (fn46 hF h) (fun H => sa_I (sa_I sa_0)) H
  have c39 := fun H => PFn.at (fn39 hF h t3) (fun H => sa_I (sa_I (sa_I sa_0))) H
  have c48 := fun H => call48 (pg := pg) hF (x := t) (by omega) H
  have shu := Dn.shl_u (k := .i64) (c := r * c) (by omega)
  rw [hcast] at shu
  have hlen := fun K => El.lt_len (E := elP) false (pairsOf r c) K
  rw [f3] at hlen
  have hle := pairN_le (r := r) (c := c) (frm := colM r c 0) (to := colM r c 1)
  have wadd : wrapR .i64 ((pop 64 (quietS r c) : Int) + (pairN r c (colM r c 0) (colM r c 1) : Int)) = .i .i64 ((r : Int) * c) := by
    rw [show (pop 64 (quietS r c) : Int) + (pairN r c (colM r c 0) (colM r c 1) : Int) = (r : Int) * c by rw [← hcast]; omega]
    exact wn
  have nadd : (((r : Int) * c != (r : Int) * c)) = false := by simp
  have hmost : quietB r c t = true → ¬ (pop 64 (quietS r c) < pop 64 t) := fun hq => by
    have := quiet_most h t3 hq f4
    omega
  have w1 : wrapR .i64 ((r : Int) * c + 1) = .i .i64 ((r * c + 1 : Nat) : Int) := by rw [show (r : Int) * c + 1 = ((r * c + 1 : Nat) : Int) by rw [← hcast]; omega]; exact wrapR_i64 (by omega)
  have td := tdiv_nat (r * c + 1) 2
  simp only [Int.cast_ofNat_Int] at td
  have wd : wrapR .i64 (((r * c + 1) / 2 : Nat) : Int) = .i .i64 (((r * c + 1) / 2 : Nat) : Int) := wrapR_i64 (by omega)
  refine ⟨[], body_of (x := .ret) (e := [(6, .b true)]) (d := d12) (by rw [hF.F]; rfl) rfl ?_ (.inl rfl) rfl⟩
  clear f1 f2 f3 f4 hle
  generalize elP.lt false (pairsOf r c) = PL at *
  generalize pop 64 (quietS r c) = PQ at *
  generalize quietS r c = QS' at *
  generalize pairN r c (colM r c 0) (colM r c 1) = PN at *
  generalize pop 64 t = PT at *
  generalize ((2 ^ (r * c) : Nat) : Int) = P2 at *
  generalize ((r * c + 1 : Nat) : Int) = RC1 at *
  have tail : ∀ q : Bool, (q = true → ¬ (PQ < PT)) → quietB r c t = q → go pg (den pg) [.c d12.body] .normal (zipE [.i .i64 x, .i .i64 y, .i .i64 s] 0) [] = some ⟨.ret, [(6, .b true)], []⟩ := fun q hm hq => by
    rw [hq] at c39
    by_cases hr : r < 3
    · cases q
      · simp (disch := omega) [d12, c12, zipE, go_nil, go_last, go_past, go_pastR, go_blkN, go_blkR, go_blkE, go_skip, go_exit, go_ret, go_scope, go_seq, go_reg, go_regd, go_opdN, go_opd, go_opdG, grdd_b, grdd_u, stpd_some, find_some, go_block, go_cond, cnd_b, go_opsN, go_ops, go_opsG, grd_b, grd_u, stp_some, fin_some, up_some, cont_some, k_call, k_mv, k_pick, k_bin, k_eqB, k_eqA, k_not, k_neg, k_conv, k_alloc, k_boxA, k_boxI, k_boxB, k_boxN, k_boxBs, k_ldR, k_ldA, k_ldI, k_ldB, k_stA, k_stI, k_stB, ldC_some, stC_some, k_mkfn, k_slc, k_slcA, k_ixA, k_ixBs, k_ixSl, k_fadr, k_fld, k_ext, k_len, k_app, k_mn, k_mx, k_nilck, k_build, k_bsl1, k_bsl2, b_add, b_sub, b_mul, b_eql, b_neq, b_lss, b_leq, b_gtr, b_geq, Dn.setLast, Dn.getLast, evalO, mapO, Dn.get, putE, keepE_nil, keepE_cons, kp_some, kp_none, TV.one, TV.isAgg, Dn.part, k_boxR, negb, at0, at1, at2, at3, at4, dT, dF, wrapR_i64, Option.bind_some, Option.map_some, c18, wn, c45, c46, t1, shu, t2, t4, c39, hlen, wadd, nadd, c48, c25]
      · have hm' := hm rfl
        simp (disch := omega) [d12, c12, zipE, go_nil, go_last, go_past, go_pastR, go_blkN, go_blkR, go_blkE, go_skip, go_exit, go_ret, go_scope, go_seq, go_reg, go_regd, go_opdN, go_opd, go_opdG, grdd_b, grdd_u, stpd_some, find_some, go_block, go_cond, cnd_b, go_opsN, go_ops, go_opsG, grd_b, grd_u, stp_some, fin_some, up_some, cont_some, k_call, k_mv, k_pick, k_bin, k_eqB, k_eqA, k_not, k_neg, k_conv, k_alloc, k_boxA, k_boxI, k_boxB, k_boxN, k_boxBs, k_ldR, k_ldA, k_ldI, k_ldB, k_stA, k_stI, k_stB, ldC_some, stC_some, k_mkfn, k_slc, k_slcA, k_ixA, k_ixBs, k_ixSl, k_fadr, k_fld, k_ext, k_len, k_app, k_mn, k_mx, k_nilck, k_build, k_bsl1, k_bsl2, b_add, b_sub, b_mul, b_eql, b_neq, b_lss, b_leq, b_gtr, b_geq, Dn.setLast, Dn.getLast, evalO, mapO, Dn.get, putE, keepE_nil, keepE_cons, kp_some, kp_none, TV.one, TV.isAgg, Dn.part, k_boxR, negb, at0, at1, at2, at3, at4, dT, dF, wrapR_i64, Option.bind_some, Option.map_some, c18, wn, c45, c46, t1, shu, t2, t4, c39, hlen, wadd, nadd, c48, c25]
    · by_cases hc : c < 3
      · cases q
        · simp (disch := omega) [d12, c12, zipE, go_nil, go_last, go_past, go_pastR, go_blkN, go_blkR, go_blkE, go_skip, go_exit, go_ret, go_scope, go_seq, go_reg, go_regd, go_opdN, go_opd, go_opdG, grdd_b, grdd_u, stpd_some, find_some, go_block, go_cond, cnd_b, go_opsN, go_ops, go_opsG, grd_b, grd_u, stp_some, fin_some, up_some, cont_some, k_call, k_mv, k_pick, k_bin, k_eqB, k_eqA, k_not, k_neg, k_conv, k_alloc, k_boxA, k_boxI, k_boxB, k_boxN, k_boxBs, k_ldR, k_ldA, k_ldI, k_ldB, k_stA, k_stI, k_stB, ldC_some, stC_some, k_mkfn, k_slc, k_slcA, k_ixA, k_ixBs, k_ixSl, k_fadr, k_fld, k_ext, k_len, k_app, k_mn, k_mx, k_nilck, k_build, k_bsl1, k_bsl2, b_add, b_sub, b_mul, b_eql, b_neq, b_lss, b_leq, b_gtr, b_geq, Dn.setLast, Dn.getLast, evalO, mapO, Dn.get, putE, keepE_nil, keepE_cons, kp_some, kp_none, TV.one, TV.isAgg, Dn.part, k_boxR, negb, at0, at1, at2, at3, at4, dT, dF, wrapR_i64, Option.bind_some, Option.map_some, c18, wn, c45, c46, t1, shu, t2, t4, c39, hlen, wadd, nadd, c48, c25]
        · have hm' := hm rfl
          simp (disch := omega) [d12, c12, zipE, go_nil, go_last, go_past, go_pastR, go_blkN, go_blkR, go_blkE, go_skip, go_exit, go_ret, go_scope, go_seq, go_reg, go_regd, go_opdN, go_opd, go_opdG, grdd_b, grdd_u, stpd_some, find_some, go_block, go_cond, cnd_b, go_opsN, go_ops, go_opsG, grd_b, grd_u, stp_some, fin_some, up_some, cont_some, k_call, k_mv, k_pick, k_bin, k_eqB, k_eqA, k_not, k_neg, k_conv, k_alloc, k_boxA, k_boxI, k_boxB, k_boxN, k_boxBs, k_ldR, k_ldA, k_ldI, k_ldB, k_stA, k_stI, k_stB, ldC_some, stC_some, k_mkfn, k_slc, k_slcA, k_ixA, k_ixBs, k_ixSl, k_fadr, k_fld, k_ext, k_len, k_app, k_mn, k_mx, k_nilck, k_build, k_bsl1, k_bsl2, b_add, b_sub, b_mul, b_eql, b_neq, b_lss, b_leq, b_gtr, b_geq, Dn.setLast, Dn.getLast, evalO, mapO, Dn.get, putE, keepE_nil, keepE_cons, kp_some, kp_none, TV.one, TV.isAgg, Dn.part, k_boxR, negb, at0, at1, at2, at3, at4, dT, dF, wrapR_i64, Option.bind_some, Option.map_some, c18, wn, c45, c46, t1, shu, t2, t4, c39, hlen, wadd, nadd, c48, c25]
      · have hpq : PQ = (r * c + 1) / 2 := by rcases f5 with f5 | f5 | f5 <;> first | omega | exact f5
        rw [← hpq] at td wd
        cases q
        · simp (disch := omega) [d12, c12, zipE, go_nil, go_last, go_past, go_pastR, go_blkN, go_blkR, go_blkE, go_skip, go_exit, go_ret, go_scope, go_seq, go_reg, go_regd, go_opdN, go_opd, go_opdG, grdd_b, grdd_u, stpd_some, find_some, go_block, go_cond, cnd_b, go_opsN, go_ops, go_opsG, grd_b, grd_u, stp_some, fin_some, up_some, cont_some, k_call, k_mv, k_pick, k_bin, k_eqB, k_eqA, k_not, k_neg, k_conv, k_alloc, k_boxA, k_boxI, k_boxB, k_boxN, k_boxBs, k_ldR, k_ldA, k_ldI, k_ldB, k_stA, k_stI, k_stB, ldC_some, stC_some, k_mkfn, k_slc, k_slcA, k_ixA, k_ixBs, k_ixSl, k_fadr, k_fld, k_ext, k_len, k_app, k_mn, k_mx, k_nilck, k_build, k_bsl1, k_bsl2, b_add, b_sub, b_mul, b_eql, b_neq, b_lss, b_leq, b_gtr, b_geq, Dn.setLast, Dn.getLast, evalO, mapO, Dn.get, putE, keepE_nil, keepE_cons, kp_some, kp_none, TV.one, TV.isAgg, Dn.part, k_boxR, negb, at0, at1, at2, at3, at4, dT, dF, wrapR_i64, Option.bind_some, Option.map_some, c18, wn, c45, c46, t1, shu, t2, t4, c39, hlen, wadd, nadd, c48, w1, b_quo, td, wd, c25]
        · have hm' := hm rfl
          simp (disch := omega) [d12, c12, zipE, go_nil, go_last, go_past, go_pastR, go_blkN, go_blkR, go_blkE, go_skip, go_exit, go_ret, go_scope, go_seq, go_reg, go_regd, go_opdN, go_opd, go_opdG, grdd_b, grdd_u, stpd_some, find_some, go_block, go_cond, cnd_b, go_opsN, go_ops, go_opsG, grd_b, grd_u, stp_some, fin_some, up_some, cont_some, k_call, k_mv, k_pick, k_bin, k_eqB, k_eqA, k_not, k_neg, k_conv, k_alloc, k_boxA, k_boxI, k_boxB, k_boxN, k_boxBs, k_ldR, k_ldA, k_ldI, k_ldB, k_stA, k_stI, k_stB, ldC_some, stC_some, k_mkfn, k_slc, k_slcA, k_ixA, k_ixBs, k_ixSl, k_fadr, k_fld, k_ext, k_len, k_app, k_mn, k_mx, k_nilck, k_build, k_bsl1, k_bsl2, b_add, b_sub, b_mul, b_eql, b_neq, b_lss, b_leq, b_gtr, b_geq, Dn.setLast, Dn.getLast, evalO, mapO, Dn.get, putE, keepE_nil, keepE_cons, kp_some, kp_none, TV.one, TV.isAgg, Dn.part, k_boxR, negb, at0, at1, at2, at3, at4, dT, dF, wrapR_i64, Option.bind_some, Option.map_some, c18, wn, c45, c46, t1, shu, t2, t4, c39, hlen, wadd, nadd, c48, w1, b_quo, td, wd, c25]
  exact tail _ hmost rfl

end Go.Proofs.Tryd.Dn

