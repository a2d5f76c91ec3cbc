/-
  Knight: tight sets on the boards, by the reference: all boards.
-/
import Derived.Test.YtdjbpmgbaggfbaaDoorKfl
import Derived.Test.YtdjbpmgbaggfbaaDoorKfm
import Derived.Test.YtdjbpmgbaggfbaaDoorKfn
import Derived.Test.YtdjbpmgbaggfbaaDoorKfo
import Derived.Test.YtdjbpmgbaggfbaaDoorKfk
import Derived.Test.YtdjbpmgbaggfbaaDoorKf
import Derived.Test.YtdjbpmgbaggfbaaDoorKfi
set_option linter.unusedSimpArgs false
set_option linter.unusedVariables false

namespace Go.Proofs.Tryd.Dn
open Go.Dn

/-- the boards without a tight set -/
def noTight : List (Nat × Nat) := [(1, 2), (2, 1), (3, 8), (5, 6), (6, 5), (6, 6), (8, 3)]
def boards : List (Nat × Nat) := (List.range 8).flatMap fun r => (List.range 8).filterMap fun c => if (r + 1) * (c + 1) ≤ 36 then some (r + 1, c + 1) else none
theorem tight_some : (boards.all fun p => (tightS p.1 p.2).isSome == !(noTight.contains p)) = true := by kernel_rfl
theorem tight_is {r c : Nat} {b : Bool} (h : (boards.contains (r, c) && ((!(noTight.contains (r, c))) == b)) = true) : (tightS r c).isSome = b := by
  rw [Bool.and_eq_true] at h
  have h1 := List.all_eq_true.1 tight_some (r, c) (by simpa using h.1)
  rw [beq_iff_eq] at h1
  rw [h1]
  exact beq_iff_eq.1 h.2

/-- the reference says that there is a tight set just if the program finds one -/
theorem hasT_eq {r c : Nat} (h : Brd r c) : hasT r c = (tightS r c).isSome := by
  have hr := h.r1; have hr8 := h.r8; have hc := h.c1; have hc8 := h.c8; have hn := h.n36
  have er : r = 1 ∨ r = 2 ∨ r = 3 ∨ r = 4 ∨ r = 5 ∨ r = 6 ∨ r = 7 ∨ r = 8 := by omega
  have ec : c = 1 ∨ c = 2 ∨ c = 3 ∨ c = 4 ∨ c = 5 ∨ c = 6 ∨ c = 7 ∨ c = 8 := by omega
  rcases er with rfl | rfl | rfl | rfl | rfl | rfl | rfl | rfl <;> rcases ec with rfl | rfl | rfl | rfl | rfl | rfl | rfl | rfl
  · exact has_1_1.trans (tight_is (by decide)).symm
  · exact has_1_2.trans (tight_is (by decide)).symm
  · exact has_1_3.trans (tight_is (by decide)).symm
  · exact has_1_4.trans (tight_is (by decide)).symm
  · exact has_1_5.trans (tight_is (by decide)).symm
  · exact has_1_6.trans (tight_is (by decide)).symm
  · exact has_1_7.trans (tight_is (by decide)).symm
  · exact has_1_8.trans (tight_is (by decide)).symm
  · exact has_2_1.trans (tight_is (by decide)).symm
  · exact has_2_2.trans (tight_is (by decide)).symm
  · exact has_2_3.trans (tight_is (by decide)).symm
  · exact has_2_4.trans (tight_is (by decide)).symm
  · exact has_2_5.trans (tight_is (by decide)).symm
  · exact has_2_6.trans (tight_is (by decide)).symm
  · exact has_2_7.trans (tight_is (by decide)).symm
  · exact has_2_8.trans (tight_is (by decide)).symm
  · exact has_3_1.trans (tight_is (by decide)).symm
  · exact has_3_2.trans (tight_is (by decide)).symm
  · exact has_3_3.trans (tight_is (by decide)).symm
  · exact has_3_4.trans (tight_is (by decide)).symm
  · exact has_3_5.trans (tight_is (by decide)).symm
  · exact has_3_6.trans (tight_is (by decide)).symm
  · exact has_3_7.trans (tight_is (by decide)).symm
  · exact has_3_8.trans (tight_is (by decide)).symm
  · exact has_4_1.trans (tight_is (by decide)).symm
  · exact has_4_2.trans (tight_is (by decide)).symm
  · exact has_4_3.trans (tight_is (by decide)).symm
  · exact has_4_4.trans (tight_is (by decide)).symm
  · exact has_4_5.trans (tight_is (by decide)).symm
  · exact has_4_6.trans (tight_is (by decide)).symm
  · exact has_4_7.trans (tight_is (by decide)).symm
  · exact has_4_8.trans (tight_is (by decide)).symm
  · exact has_5_1.trans (tight_is (by decide)).symm
  · exact has_5_2.trans (tight_is (by decide)).symm
  · exact has_5_3.trans (tight_is (by decide)).symm
  · exact has_5_4.trans (tight_is (by decide)).symm
  · exact has_5_5.trans (tight_is (by decide)).symm
  · exact has_5_6.trans (tight_is (by decide)).symm
  · exact has_5_7.trans (tight_is (by decide)).symm
  · exact absurd hn (by decide)
  · exact has_6_1.trans (tight_is (by decide)).symm
  · exact has_6_2.trans (tight_is (by decide)).symm
  · exact has_6_3.trans (tight_is (by decide)).symm
  · exact has_6_4.trans (tight_is (by decide)).symm
  · exact has_6_5.trans (tight_is (by decide)).symm
  · exact has_6_6.trans (tight_is (by decide)).symm
  · exact absurd hn (by decide)
  · exact absurd hn (by decide)
  · exact has_7_1.trans (tight_is (by decide)).symm
  · exact has_7_2.trans (tight_is (by decide)).symm
  · exact has_7_3.trans (tight_is (by decide)).symm
  · exact has_7_4.trans (tight_is (by decide)).symm
  · exact has_7_5.trans (tight_is (by decide)).symm
  · exact absurd hn (by decide)
  · exact absurd hn (by decide)
  · exact absurd hn (by decide)
  · exact has_8_1.trans (tight_is (by decide)).symm
  · exact has_8_2.trans (tight_is (by decide)).symm
  · exact has_8_3.trans (tight_is (by decide)).symm
  · exact has_8_4.trans (tight_is (by decide)).symm
  · exact absurd hn (by decide)
  · exact absurd hn (by decide)
  · exact absurd hn (by decide)
  · exact absurd hn (by decide)

end Go.Proofs.Tryd.Dn

/-
  Knight: the law of tight sets, run.
-/

namespace Go.Proofs.Tryd.Dn
open Go.Dn

theorem tight_ok {r c v : Nat} (h : Brd r c) (hv : tightS r c = some v) : tightB r c v = true := by
  have := h.ok tight_ev
  unfold tightOk at this
  rw [hv] at this
  exact this

theorem l7_round {pg : Pg} (hF : Free pg) {r c x : Nat} (s : Int) (h : Brd r c) (hx : x < 2 ^ (r * c)) (k : Nat) (hk : k < 2) (H : Heap) : ∃ x' : Nat, x' < 2 ^ (r * c) ∧ den pg l7_1 [(0, .i .i64 (r : Int)), (1, .i .i64 (c : Int)), (2, .i .i64 s), (10, .i .i64 (x : Int)), (11, .i .i64 (k : Int))] H =
    den pg l7_1 [(0, .i .i64 (r : Int)), (1, .i .i64 (c : Int)), (2, .i .i64 s), (10, .i .i64 (x' : Int)), (11, .i .i64 ((k : Int) + 1))] H := by
  have h63 := lt63 h
  obtain ⟨wq, q, q1, q2, q3, q4⟩ := conv_rem s (n := 2) (by omega) (by omega)
  have q2' : binI .rem (.i .u64 (wq : Int)) (.i .u64 2) = some (.i .u64 (q : Int)) := q2
  have c38 := fun H => PFn.at (fn38 hF h hx) (fun H => sa_I (sa_I (sa_I sa_0))) H
  have c39 := fun H => PFn.at (fn39 hF h hx) (fun H => sa_I (sa_I (sa_I sa_0))) H
  have c37 := fun H => PFn.at (fn37 hF h hx) (fun H => sa_I (sa_I (sa_I sa_0))) H
  have c40 := fun H => PFn.at (fn40 hF h hx) (fun H => sa_I (sa_I (sa_I sa_0))) H
  have c41 := fun H => call41 (pg := pg) hF (col := q) h H
  have hcl := colM_lt r c q
  have an := and_ii (m := x) (k := colM r c q) (by omega) (by omega)
  refine ⟨x &&& colM r c q, Nat.lt_of_le_of_lt Nat.and_le_left hx, ?_⟩
  generalize x &&& colM r c q = V at *
  generalize tightB r c x = TB at *
  generalize quietB r c x = QB at *
  rw [l7_1, den_loop]
  cases TB <;> cases QB <;> simp (disch := omega) [l7_1, b7_0, go_nil, go_last, go_past, go_pastR, go_blkN, go_blkR, go_blkE, go_skip, go_exit, go_ret, go_scope, go_seq, go_reg, go_regd, go_opdN, go_opd, go_opdG, grdd_b, grdd_u, stpd_some, find_some, go_block, go_cond, cnd_b, go_opsN, go_ops, go_opsG, grd_b, grd_u, stp_some, fin_some, up_some, cont_some, k_call, k_mv, k_pick, k_bin, k_eqB, k_eqA, k_not, k_neg, k_conv, k_alloc, k_boxA, k_boxI, k_boxB, k_boxN, k_boxBs, k_ldR, k_ldA, k_ldI, k_ldB, k_stA, k_stI, k_stB, ldC_some, stC_some, k_mkfn, k_slc, k_slcA, k_ixA, k_ixBs, k_ixSl, k_fadr, k_fld, k_ext, k_len, k_app, k_mn, k_mx, k_nilck, k_build, k_bsl1, k_bsl2, b_add, b_sub, b_mul, b_eql, b_neq, b_lss, b_leq, b_gtr, b_geq, Dn.setLast, Dn.getLast, evalO, mapO, Dn.get, putE, keepE_nil, keepE_cons, kp_some, kp_none, TV.one, TV.isAgg, Dn.part, k_boxR, negb, at0, at1, at2, at3, at4, dT, dF, wrapR_i64, Option.bind_some, Option.map_some, c38, c39, c37, c40, q1, q2', q4, c41, an]

set_option maxRecDepth 100000 in
theorem run7 {pg : Pg} (hF : Free pg) (h25 : PFn pg 25 [] (.b true)) (x y s : Int) : ∃ H, bodyRun pg (den pg) 7 [.i .i64 x, .i .i64 y, .i .i64 s] [] = some (.b true, H) := by
  obtain ⟨r, c, h, c18⟩ := call18 hF x y
  have hn := h.n36
  have h63 := lt63 h
  obtain ⟨hcast, wn⟩ := rc_facts h
  have hp : 1 ≤ 2 ^ (r * c) := Nat.one_le_two_pow
  obtain ⟨wx, t, t1, t2, t3, t4⟩ := conv_remB s hp (by omega)
  have c25 := fun H => PFn.call h25 (args := []) (ks := []) (fs := []) (cs := []) (H := H) (by simp [snapArgs])
  have c35 := fun H => PFn.at (fn35 hF h) (fun H => sa_I (sa_I sa_0)) H
  have c36 := fun H => PFn.at (fn36 hF h) (fun H => sa_I (sa_I sa_0)) H
  rw [hasT_eq h] at c36
  have shu := Dn.shl_u (k := .i64) (c := r * c) (by omega)
  have shi := Dn.shl_i (k := .i64) (c := r * c) (by omega)
  rw [hcast] at shu shi
  obtain ⟨x1, xl1, p1⟩ := l7_round (pg := pg) hF s h t3 0 (by omega) []
  obtain ⟨x2, xl2, p2⟩ := l7_round (pg := pg) hF s h xl1 1 (by omega) []
  simp only [Int.natCast_zero, Int.zero_add, Int.natCast_one] at p1 p2
  have p3 : ∃ e, den pg l7_1 [(0, .i .i64 (r : Int)), (1, .i .i64 (c : Int)), (2, .i .i64 s), (10, .i .i64 (x2 : Int)), (11, .i .i64 (1 + 1))] [] = some ⟨.exit 0, e, []⟩ := ⟨_, by
    rw [l7_1, den_loop]
    simp (disch := omega) [b7_0, go_nil, go_last, go_past, go_pastR, go_blkN, go_blkR, go_blkE, go_skip, go_exit, go_ret, go_scope, go_seq, go_reg, go_regd, go_opdN, go_opd, go_opdG, grdd_b, grdd_u, stpd_some, find_some, go_block, go_cond, cnd_b, go_opsN, go_ops, go_opsG, grd_b, grd_u, stp_some, fin_some, up_some, cont_some, k_call, k_mv, k_pick, k_bin, k_eqB, k_eqA, k_not, k_neg, k_conv, k_alloc, k_boxA, k_boxI, k_boxB, k_boxN, k_boxBs, k_ldR, k_ldA, k_ldI, k_ldB, k_stA, k_stI, k_stB, ldC_some, stC_some, k_mkfn, k_slc, k_slcA, k_ixA, k_ixBs, k_ixSl, k_fadr, k_fld, k_ext, k_len, k_app, k_mn, k_mx, k_nilck, k_build, k_bsl1, k_bsl2, b_add, b_sub, b_mul, b_eql, b_neq, b_lss, b_leq, b_gtr, b_geq, Dn.setLast, Dn.getLast, evalO, mapO, Dn.get, putE, keepE_nil, keepE_cons, kp_some, kp_none, TV.one, TV.isAgg, Dn.part, k_boxR, negb, at0, at1, at2, at3, at4, dT, dF, wrapR_i64, Option.bind_some, Option.map_some]
    rfl⟩
  obtain ⟨e, p3⟩ := p3
  rw [← p2, ← p1] at p3
  refine ⟨[], body_of (x := .ret) (e := [(6, .b true)]) (d := d7) (by rw [hF.F]; rfl) rfl ?_ (.inl rfl) rfl⟩
  cases hts : tightS r c with
  | none =>
    rw [hts] at c35 c36
    simp only [Option.getD_none, Option.isSome_none, Int.natCast_zero] at c35 c36
    generalize ((2 ^ (r * c) : Nat) : Int) = P2 at *
    simp (disch := omega) [d7, c7, zipE, go_nil, go_last, go_past, go_pastR, go_blkN, go_blkR, go_blkE, go_skip, go_exit, go_ret, go_scope, go_seq, go_reg, go_regd, go_opdN, go_opd, go_opdG, grdd_b, grdd_u, stpd_some, find_some, go_block, go_cond, cnd_b, go_opsN, go_ops, go_opsG, grd_b, grd_u, stp_some, fin_some, up_some, cont_some, k_call, k_mv, k_pick, k_bin, k_eqB, k_eqA, k_not, k_neg, k_conv, k_alloc, k_boxA, k_boxI, k_boxB, k_boxN, k_boxBs, k_ldR, k_ldA, k_ldI, k_ldB, k_stA, k_stI, k_stB, ldC_some, stC_some, k_mkfn, k_slc, k_slcA, k_ixA, k_ixBs, k_ixSl, k_fadr, k_fld, k_ext, k_len, k_app, k_mn, k_mx, k_nilck, k_build, k_bsl1, k_bsl2, b_add, b_sub, b_mul, b_eql, b_neq, b_lss, b_leq, b_gtr, b_geq, Dn.setLast, Dn.getLast, evalO, mapO, Dn.get, putE, keepE_nil, keepE_cons, kp_some, kp_none, TV.one, TV.isAgg, Dn.part, k_boxR, negb, at0, at1, at2, at3, at4, dT, dF, wrapR_i64, Option.bind_some, Option.map_some, c18, wn, c35, c36, t1, shu, t2, t4, go_denK (c := l7_1) rfl, p3, c25]
  | some v =>
    rw [hts] at c35 c36
    simp only [Option.getD_some, Option.isSome_some] at c35 c36
    have hv := tightS_lt h hts
    have c37 := fun H => PFn.at (fn37 hF h hv) (fun H => sa_I (sa_I (sa_I sa_0))) H
    rw [tight_ok h hts] at c37
    have v0 : decide ((v : Int) < 0) = false := dF (by omega)
    have vl : decide (((2 ^ (r * c) : Nat) : Int) ≤ (v : Int)) = false := dF (by omega)
    generalize ((2 ^ (r * c) : Nat) : Int) = P2 at *
    simp (disch := omega) [d7, c7, zipE, go_nil, go_last, go_past, go_pastR, go_blkN, go_blkR, go_blkE, go_skip, go_exit, go_ret, go_scope, go_seq, go_reg, go_regd, go_opdN, go_opd, go_opdG, grdd_b, grdd_u, stpd_some, find_some, go_block, go_cond, cnd_b, go_opsN, go_ops, go_opsG, grd_b, grd_u, stp_some, fin_some, up_some, cont_some, k_call, k_mv, k_pick, k_bin, k_eqB, k_eqA, k_not, k_neg, k_conv, k_alloc, k_boxA, k_boxI, k_boxB, k_boxN, k_boxBs, k_ldR, k_ldA, k_ldI, k_ldB, k_stA, k_stI, k_stB, ldC_some, stC_some, k_mkfn, k_slc, k_slcA, k_ixA, k_ixBs, k_ixSl, k_fadr, k_fld, k_ext, k_len, k_app, k_mn, k_mx, k_nilck, k_build, k_bsl1, k_bsl2, b_add, b_sub, b_mul, b_eql, b_neq, b_lss, b_leq, b_gtr, b_geq, Dn.setLast, Dn.getLast, evalO, mapO, Dn.get, putE, keepE_nil, keepE_cons, kp_some, kp_none, TV.one, TV.isAgg, Dn.part, k_boxR, negb, at0, at1, at2, at3, at4, dT, dF, wrapR_i64, Option.bind_some, Option.map_some, c18, wn, c35, c36, v0, shi, vl, c37, t1, shu, t2, t4, go_denK (c := l7_1) rfl, p3, c25]

end Go.Proofs.Tryd.Dn

