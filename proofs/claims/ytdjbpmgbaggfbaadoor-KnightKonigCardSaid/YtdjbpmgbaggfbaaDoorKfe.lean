/-
  Knight: quiet sets and tight sets: the looks of the program and of the reference.
-/
import Derived.Test.YtdjbpmgbaggfbaaDoorKfd
import Derived.Test.YtdjbpmgbaggfbaaDoorKfa
set_option linter.unusedSimpArgs false
set_option linter.unusedVariables false

namespace Go.Proofs.Tryd.Dn
open Go.Dn

def quietB (r c x : Nat) : Bool := decide (around r c x &&& x = 0)

theorem fn72 {pg : Pg} (hF : Free pg) {r c x : Nat} {bo : Bool} (h : Brd r c) (hx : x < 2 ^ (r * c)) : PFn pg 72 [.bp bo (.agg (bM r c)), .i .u64 (x : Int)] (.b (quietB r c x)) := by
  have h64 := lv64 h
  have har := around_lt h hx
  have c71 := call71 (pg := pg) hF (bo := bo) h hx []
  have an := and_uu (m := around r c x) (k := x) (by omega) (by omega)
  have he : ((((around r c x &&& x : Nat) : Int) == 0) : Bool) = quietB r c x := by
    unfold quietB
    by_cases h0 : around r c x &&& x = 0
    · rw [dT h0, beqT (by omega)]
    · rw [dF h0, beqF (by omega)]
  refine .inr ⟨hF.S _ _ (by decide), .b (quietB r c x), [], body_of (x := .ret) (e := [(4, .b (quietB r c x))]) (d := d72) (by rw [hF.F]; rfl) rfl ?_ (.inl rfl) rfl, sn_b _ _ _⟩
  rw [← he]
  generalize TV.bp bo (.agg (bM r c)) = BP at *
  generalize around r c x &&& x = V at *
  simp (disch := omega) [d72, c72, zipE, go_nil, go_last, go_past, go_pastR, go_blkN, go_blkR, go_blkE, go_skip, go_exit, go_ret, go_scope, go_seq, go_reg, go_regd, go_opdN, go_opd, go_opdG, grdd_b, grdd_u, stpd_some, find_some, go_block, go_cond, cnd_b, go_opsN, go_ops, go_opsG, grd_b, grd_u, stp_some, fin_some, up_some, cont_some, k_call, k_mv, k_pick, k_bin, k_eqB, k_eqA, k_not, k_neg, k_conv, k_alloc, k_boxA, k_boxI, k_boxB, k_boxN, k_boxBs, k_ldR, k_ldA, k_ldI, k_ldB, k_stA, k_stI, k_stB, ldC_some, stC_some, k_mkfn, k_slc, k_slcA, k_ixA, k_ixBs, k_ixSl, k_fadr, k_fld, k_ext, k_len, k_app, k_mn, k_mx, k_nilck, k_build, k_bsl1, k_bsl2, b_add, b_sub, b_mul, b_eql, b_neq, b_lss, b_leq, b_gtr, b_geq, Dn.setLast, Dn.getLast, evalO, mapO, Dn.get, putE, keepE_nil, keepE_cons, kp_some, kp_none, TV.one, TV.isAgg, Dn.part, k_boxR, negb, at0, at1, at2, at3, at4, dT, dF, wrapR_i64, Option.bind_some, Option.map_some, c71, an]

theorem Bv.call72 {pg : Pg} (hF : Free pg) {r c x : Nat} {H : Heap} {BV : TV} (hb : Bv r c H BV) (h : Brd r c) (hx : x < 2 ^ (r * c)) : callRun pg (den pg) (.pu []) [.fn 72 [] [], BV, .i .u64 (x : Int)] H = some (.b (quietB r c x), H) := by
  unfold Bv at hb
  exact PFn.call (fn72 hF (bo := true) h hx) (args := [BV, .i .u64 (x : Int)]) (by simp [snapArgs, sn_i, hb])

/-- a board, and a set of its squares -/
theorem body68 {pg : Pg} (hF : Free pg) {r c x : Nat} (h : Brd r c) (hx : x < 2 ^ (r * c)) (H : Heap) : ∃ H', bodyRun pg (den pg) 68 [.i .i64 (r : Int), .i .i64 (c : Int), .i .i64 (x : Int)] H = some (.tup [.ref H.length 0, .i .i64 0], H') ∧
    H'[H.length]? = some (.cells (bM r c) true) ∧ H.length < H'.length ∧ ∀ m, m < H.length → H'[m]? = H[m]? := by
  have hn := h.n36
  obtain ⟨H1, h1, h2, h3, h4⟩ := body59n (pg := pg) hF h H
  have ln := ld_n (pg := pg) (R := den pg) (r := r) (c := c) (f := mvTo r c (r * c)) h2
  have wn := wrap_u (m := r * c) (by omega)
  have sh := Dn.shl_i (k := .u64) (c := r * c) (by omega)
  have x0 : decide ((x : Int) < 0) = false := dF (by omega)
  have xl : decide (((2 ^ (r * c) : Nat) : Int) ≤ (x : Int)) = false := dF (by omega)
  have fd : ∀ (K : Heap) (o sz : Nat) (ag : Bool), dkc pg (den pg) (.fadr o sz ag) [.ref H.length 0] K = some (.ref H.length o, K) := fun K o sz ag => by rw [k_fadr]; simp
  refine ⟨H1, body_ofs (x := .ret) (e := [(6, .ref H.length 0), (7, .i .i64 0)]) (vs := [.ref H.length 0, .i .i64 0]) (d := d68) (by rw [hF.F]; rfl) rfl ?_ (.inl rfl) rfl, h2, h3, h4⟩
  generalize ((2 ^ (r * c) : Nat) : Int) = P2 at *
  generalize ((r * c : Nat) : Int) = N at *
  simp (disch := omega) [d68, c68, zipE, go_nil, go_last, go_past, go_pastR, go_blkN, go_blkR, go_blkE, go_skip, go_exit, go_ret, go_scope, go_seq, go_reg, go_regd, go_opdN, go_opd, go_opdG, grdd_b, grdd_u, stpd_some, find_some, go_block, go_cond, cnd_b, go_opsN, go_ops, go_opsG, grd_b, grd_u, stp_some, fin_some, up_some, cont_some, k_call, k_mv, k_pick, k_bin, k_eqB, k_eqA, k_not, k_neg, k_conv, k_alloc, k_boxA, k_boxI, k_boxB, k_boxN, k_boxBs, k_ldR, k_ldA, k_ldI, k_ldB, k_stA, k_stI, k_stB, ldC_some, stC_some, k_mkfn, k_slc, k_slcA, k_ixA, k_ixBs, k_ixSl, k_fadr, k_fld, k_ext, k_len, k_app, k_mn, k_mx, k_nilck, k_build, k_bsl1, k_bsl2, b_add, b_sub, b_mul, b_eql, b_neq, b_lss, b_leq, b_gtr, b_geq, Dn.setLast, Dn.getLast, evalO, mapO, Dn.get, putE, keepE_nil, keepE_cons, kp_some, kp_none, TV.one, TV.isAgg, Dn.part, k_boxR, negb, at0, at1, at2, at3, at4, dT, dF, wrapR_i64, Option.bind_some, Option.map_some, sh_fn, h1, x0, fd, ln, wn, sh, xl]

theorem fn39 {pg : Pg} (hF : Free pg) {r c x : Nat} (h : Brd r c) (hx : x < 2 ^ (r * c)) : PFn pg 39 [.i .i64 (r : Int), .i .i64 (c : Int), .i .i64 (x : Int)] (.tup [.b (quietB r c x), .i .i64 0]) := by
  have h64 := lv64 h
  obtain ⟨H1, h1, h2, h3, h4⟩ := body68 (pg := pg) hF h hx []
  simp only [List.length_nil] at h1 h2
  have c72 := (Bv.ref h2).call72 (pg := pg) hF h hx
  have wx := wrap_u (m := x) (by omega)
  refine .of2 (x := .ret) (e := [(6, .b (quietB r c x)), (7, .i .i64 0)]) (H' := H1) (hF.S _ _ (by decide)) (d := d39) (by rw [hF.F]; rfl) rfl ?_ (.inl rfl) rfl (by simp) (by simp [sn_i, sn_b, sn_nil, sn8_i, sn8_b, sn8_nil, sn7_i, sn7_b, sn_sl, sn8_sl, slB_some, sn_tup, sn_agg, sn8_agg, mapO, elems])
  simp (disch := omega) [d39, c39, zipE, go_nil, go_last, go_past, go_pastR, go_blkN, go_blkR, go_blkE, go_skip, go_exit, go_ret, go_scope, go_seq, go_reg, go_regd, go_opdN, go_opd, go_opdG, grdd_b, grdd_u, stpd_some, find_some, go_block, go_cond, cnd_b, go_opsN, go_ops, go_opsG, grd_b, grd_u, stp_some, fin_some, up_some, cont_some, k_call, k_mv, k_pick, k_bin, k_eqB, k_eqA, k_not, k_neg, k_conv, k_alloc, k_boxA, k_boxI, k_boxB, k_boxN, k_boxBs, k_ldR, k_ldA, k_ldI, k_ldB, k_stA, k_stI, k_stB, ldC_some, stC_some, k_mkfn, k_slc, k_slcA, k_ixA, k_ixBs, k_ixSl, k_fadr, k_fld, k_ext, k_len, k_app, k_mn, k_mx, k_nilck, k_build, k_bsl1, k_bsl2, b_add, b_sub, b_mul, b_eql, b_neq, b_lss, b_leq, b_gtr, b_geq, Dn.setLast, Dn.getLast, evalO, mapO, Dn.get, putE, keepE_nil, keepE_cons, kp_some, kp_none, TV.one, TV.isAgg, Dn.part, k_boxR, negb, at0, at1, at2, at3, at4, dT, dF, wrapR_i64, Option.bind_some, Option.map_some, sh_fn, h1, wx, c72]

/-! the number of squares of a set -/
theorem pop_one (y : Nat) : pop 1 y = y % 2 := by simp [pop]
theorem pop_step (i x : Nat) : pop (i + 1) x = pop i x + x / 2 ^ i % 2 := by rw [pop_add i 1 x, pop_one]
theorem pop_zero : ∀ n, pop n 0 = 0
  | 0 => rfl
  | n + 1 => by simp [pop, pop_zero n]

theorem l48_all {pg : Pg} {x : Nat} (hx : x < 18446744073709551616) {H : Heap} : ∀ (d i : Nat), i + d = 64 → ∃ e, den pg l48_1 [(0, .i .i64 (x : Int)), (3, .i .i64 (pop i x : Int)), (4, .i .i64 (i : Int))] H = some ⟨.exit 0, e, H⟩ ∧ Dn.get e 3 = some (.i .i64 (pop 64 x : Int)) := by
  intro d
  induction d with
  | zero =>
    intro i hd
    obtain rfl : i = 64 := by omega
    have sh := Dn.shr_i (k := .i64) (m := x) (c := 64) (by omega)
    have hz : x / 2 ^ 64 = 0 := Nat.div_eq_of_lt (by omega)
    rw [hz] at sh
    simp only [Int.natCast_zero, Int.cast_ofNat_Int] at sh ⊢
    have key : ∀ P : Int, ∃ e, den pg l48_1 [(0, .i .i64 (x : Int)), (3, .i .i64 P), (4, .i .i64 64)] H = some ⟨.exit 0, e, H⟩ ∧ Dn.get e 3 = some (.i .i64 P) := fun P => ⟨_, by
      rw [l48_1, den_loop]
      simp (disch := omega) [b48_0, go_nil, go_last, go_past, go_pastR, go_blkN, go_blkR, go_blkE, go_skip, go_exit, go_ret, go_scope, go_seq, go_reg, go_regd, go_opdN, go_opd, go_opdG, grdd_b, grdd_u, stpd_some, find_some, go_block, go_cond, cnd_b, go_opsN, go_ops, go_opsG, grd_b, grd_u, stp_some, fin_some, up_some, cont_some, k_call, k_mv, k_pick, k_bin, k_eqB, k_eqA, k_not, k_neg, k_conv, k_alloc, k_boxA, k_boxI, k_boxB, k_boxN, k_boxBs, k_ldR, k_ldA, k_ldI, k_ldB, k_stA, k_stI, k_stB, ldC_some, stC_some, k_mkfn, k_slc, k_slcA, k_ixA, k_ixBs, k_ixSl, k_fadr, k_fld, k_ext, k_len, k_app, k_mn, k_mx, k_nilck, k_build, k_bsl1, k_bsl2, b_add, b_sub, b_mul, b_eql, b_neq, b_lss, b_leq, b_gtr, b_geq, Dn.setLast, Dn.getLast, evalO, mapO, Dn.get, putE, keepE_nil, keepE_cons, kp_some, kp_none, TV.one, TV.isAgg, Dn.part, k_boxR, negb, at0, at1, at2, at3, at4, dT, dF, wrapR_i64, Option.bind_some, Option.map_some, sh]
      rfl, rfl⟩
    exact key _
  | succ d ih =>
    intro i hd
    have sh := Dn.shr_i (k := .i64) (m := x) (c := i) (by omega)
    by_cases hz : x / 2 ^ i = 0
    · rw [hz] at sh
      have hp : pop 64 x = pop i x := by
        have := pop_add i (64 - i) x
        rw [show i + (64 - i) = 64 by omega, hz, pop_zero] at this
        omega
      rw [hp]
      simp only [Int.natCast_zero] at sh
      have key : ∀ P : Int, ∃ e, den pg l48_1 [(0, .i .i64 (x : Int)), (3, .i .i64 P), (4, .i .i64 (i : Int))] H = some ⟨.exit 0, e, H⟩ ∧ Dn.get e 3 = some (.i .i64 P) := fun P => ⟨_, by
        rw [l48_1, den_loop]
        simp (disch := omega) [b48_0, go_nil, go_last, go_past, go_pastR, go_blkN, go_blkR, go_blkE, go_skip, go_exit, go_ret, go_scope, go_seq, go_reg, go_regd, go_opdN, go_opd, go_opdG, grdd_b, grdd_u, stpd_some, find_some, go_block, go_cond, cnd_b, go_opsN, go_ops, go_opsG, grd_b, grd_u, stp_some, fin_some, up_some, cont_some, k_call, k_mv, k_pick, k_bin, k_eqB, k_eqA, k_not, k_neg, k_conv, k_alloc, k_boxA, k_boxI, k_boxB, k_boxN, k_boxBs, k_ldR, k_ldA, k_ldI, k_ldB, k_stA, k_stI, k_stB, ldC_some, stC_some, k_mkfn, k_slc, k_slcA, k_ixA, k_ixBs, k_ixSl, k_fadr, k_fld, k_ext, k_len, k_app, k_mn, k_mx, k_nilck, k_build, k_bsl1, k_bsl2, b_add, b_sub, b_mul, b_eql, b_neq, b_lss, b_leq, b_gtr, b_geq, Dn.setLast, Dn.getLast, evalO, mapO, Dn.get, putE, keepE_nil, keepE_cons, kp_some, kp_none, TV.one, TV.isAgg, Dn.part, k_boxR, negb, at0, at1, at2, at3, at4, dT, dF, wrapR_i64, Option.bind_some, Option.map_some, sh]
        rfl, rfl⟩
      exact key _
    · obtain ⟨e, e1, e2⟩ := ih (i + 1) (by omega)
      have rm := tmod_nat (x / 2 ^ i) 2
      simp only [Int.cast_ofNat_Int] at rm
      have hps := pop_step i x
      have hpl := pop_le i x
      have hm : x / 2 ^ i % 2 < 2 := Nat.mod_lt _ (by decide)
      generalize x / 2 ^ i % 2 = Y at *
      generalize x / 2 ^ i = D at *
      refine ⟨e, Eq.trans ?_ e1, e2⟩
      rw [hps]
      generalize pop i x = P at *
      have w1 : wrapR .i64 ((P : Int) + (Y : Int)) = .i .i64 ((P + Y : Nat) : Int) := by rw [show (P : Int) + Y = ((P + Y : Nat) : Int) by omega]; exact wrapR_i64 (by omega)
      rw [l48_1, den_loop]
      simp (disch := omega) [l48_1, b48_0, go_nil, go_last, go_past, go_pastR, go_blkN, go_blkR, go_blkE, go_skip, go_exit, go_ret, go_scope, go_seq, go_reg, go_regd, go_opdN, go_opd, go_opdG, grdd_b, grdd_u, stpd_some, find_some, go_block, go_cond, cnd_b, go_opsN, go_ops, go_opsG, grd_b, grd_u, stp_some, fin_some, up_some, cont_some, k_call, k_mv, k_pick, k_bin, k_eqB, k_eqA, k_not, k_neg, k_conv, k_alloc, k_boxA, k_boxI, k_boxB, k_boxN, k_boxBs, k_ldR, k_ldA, k_ldI, k_ldB, k_stA, k_stI, k_stB, ldC_some, stC_some, k_mkfn, k_slc, k_slcA, k_ixA, k_ixBs, k_ixSl, k_fadr, k_fld, k_ext, k_len, k_app, k_mn, k_mx, k_nilck, k_build, k_bsl1, k_bsl2, b_add, b_sub, b_mul, b_eql, b_neq, b_lss, b_leq, b_gtr, b_geq, Dn.setLast, Dn.getLast, evalO, mapO, Dn.get, putE, keepE_nil, keepE_cons, kp_some, kp_none, TV.one, TV.isAgg, Dn.part, k_boxR, negb, at0, at1, at2, at3, at4, dT, dF, wrapR_i64, Option.bind_some, Option.map_some, sh, b_rem, rm, w1]

theorem fn48 {pg : Pg} (hF : Free pg) {x : Nat} (hx : x < 9223372036854775808) : PFn pg 48 [.i .i64 (x : Int)] (.i .i64 (pop 64 x : Int)) := by
  obtain ⟨e, e1, e2⟩ := l48_all (pg := pg) (x := x) (by omega) (H := []) 64 0 (by omega)
  have h0 : ((pop 0 x : Nat) : Int) = 0 := rfl
  rw [h0] at e1
  simp only [Int.natCast_zero] at e1
  refine .inr ⟨hF.S _ _ (by decide), .i .i64 (pop 64 x : Int), [], body_of (x := .ret) (e := [(2, .i .i64 (pop 64 x : Int))]) (d := d48) (by rw [hF.F]; rfl) rfl ?_ (.inl rfl) rfl, sn_i _ _ _ _⟩
  generalize (pop 64 x : Int) = P at *
  simp (disch := omega) [d48, c48, zipE, go_nil, go_last, go_past, go_pastR, go_blkN, go_blkR, go_blkE, go_skip, go_exit, go_ret, go_scope, go_seq, go_reg, go_regd, go_opdN, go_opd, go_opdG, grdd_b, grdd_u, stpd_some, find_some, go_block, go_cond, cnd_b, go_opsN, go_ops, go_opsG, grd_b, grd_u, stp_some, fin_some, up_some, cont_some, k_call, k_mv, k_pick, k_bin, k_eqB, k_eqA, k_not, k_neg, k_conv, k_alloc, k_boxA, k_boxI, k_boxB, k_boxN, k_boxBs, k_ldR, k_ldA, k_ldI, k_ldB, k_stA, k_stI, k_stB, ldC_some, stC_some, k_mkfn, k_slc, k_slcA, k_ixA, k_ixBs, k_ixSl, k_fadr, k_fld, k_ext, k_len, k_app, k_mn, k_mx, k_nilck, k_build, k_bsl1, k_bsl2, b_add, b_sub, b_mul, b_eql, b_neq, b_lss, b_leq, b_gtr, b_geq, Dn.setLast, Dn.getLast, evalO, mapO, Dn.get, putE, keepE_nil, keepE_cons, kp_some, kp_none, TV.one, TV.isAgg, Dn.part, k_boxR, negb, at0, at1, at2, at3, at4, dT, dF, wrapR_i64, Option.bind_some, Option.map_some, go_denK (c := l48_1) rfl, e1, e2]

theorem call48 {pg : Pg} (hF : Free pg) {x : Nat} (hx : x < 9223372036854775808) (H : Heap) : callRun pg (den pg) (.pu []) [.fn 48 [] [], .i .i64 (x : Int)] H = some (.i .i64 (pop 64 x : Int), H) := PFn.at (fn48 hF hx) (fun H => sa_I sa_0) H

/-! the squares of a colour, in the reference -/
/-! the squares around a set, in the reference -/
theorem lt63 {r c : Nat} (h : Brd r c) : 2 ^ (r * c) ≤ 137438953472 := by
  have hn := h.n36
  have := Nat.pow_le_pow_right (n := 2) (by decide) (show r * c ≤ 37 by omega)
  omega

end Go.Proofs.Tryd.Dn

/-
  Knight: tight sets, looked at by the program and by the reference.
-/

namespace Go.Proofs.Tryd.Dn
open Go.Dn

end Go.Proofs.Tryd.Dn

