/-
  Knight: quiet sets and tight sets: the looks of the program and of the reference.
-/
import Derived.Test.YtdjbpmgbaggfbaaDoorKfd
import Derived.Test.YtdjbpmgbaggfbaaDoorKfa
set_option linter.unusedSimpArgs false
set_option linter.unusedVariables false

namespace Go.Proofs.Tryd.Dn
open Go.Dn

def quietB (r c x : Nat) : Bool := decide (around r c x &&& x = 0)

theorem fn72 {pg : Pg} (hF : Free pg) {r c x : Nat} {bo : Bool} (h : Brd r c) (hx : x < 2 ^ (r * c)) : PFn pg 72 [.bp bo (.agg (bM r c)), .i .u64 (x : Int)] (.b (quietB r c x)) := by
  have h64 := lv64 h
  have har := around_lt h hx
  have c71 := call71 (pg := pg) hF (bo := bo) h hx []
  have an := and_uu (m := around r c x) (k := x) (by omega) (by omega)
  have he : ((((around r c x &&& x : Nat) : Int) == 0) : Bool) = quietB r c x := by
    unfold quietB
    by_cases h0 : around r c x &&& x = 0
    · rw [dT h0, beqT (by omega)]
    · rw [dF h0, beqF (by omega)]
  refine .inr ⟨hF.S _ _ (by decide), .b (quietB r c x), [], body_of (x := .ret) (e := [(4, .b (quietB r c x))]) (d := d72) (by rw [hF.F]; rfl) rfl ?_ (.inl rfl) rfl, sn_b _ _ _⟩
  rw [← he]
  generalize TV.bp bo (.agg (bM r c)) = BP at *
  generalize around r c x &&& x = V at *
  simp (disch := omega) [d72, c72, zipE, go_nil, go_last, go_past, go_pastR, go_blkN, go_blkR, go_blkE, go_skip, go_exit, go_ret, go_scope, go_seq, go_reg, go_regd, go_opdN, go_opd, go_opdG, grdd_b, grdd_u, stpd_some, find_some, go_block, go_cond, cnd_b, go_opsN, go_ops, go_opsG, grd_b, grd_u, stp_some, fin_some, up_some, cont_some, k_call, k_mv, k_pick, k_bin, k_eqB, k_eqA, k_not, k_neg, k_conv, k_alloc, k_boxA, k_boxI, k_boxB, k_boxN, k_boxBs, k_ldR, k_ldA, k_ldI, k_ldB, k_stA, k_stI, k_stB, ldC_some, stC_some, k_mkfn, k_slc, k_slcA, k_ixA, k_ixBs, k_ixSl, k_fadr, k_fld, k_ext, k_len, k_app, k_mn, k_mx, k_nilck, k_build, k_bsl1, k_bsl2, b_add, b_sub, b_mul, b_eql, b_neq, b_lss, b_leq, b_gtr, b_geq, Dn.setLast, Dn.getLast, evalO, mapO, Dn.get, putE, keepE_nil, keepE_cons, kp_some, kp_none, TV.one, TV.isAgg, Dn.part, k_boxR, negb, at0, at1, at2, at3, at4, dT, dF, wrapR_i64, Option.bind_some, Option.map_some, c71, an]

theorem Bv.call72 {pg : Pg} (hF : Free pg) {r c x : Nat} {H : Heap} {BV : TV} (hb : Bv r c H BV) (h : Brd r c) (hx : x < 2 ^ (r * c)) : callRun pg (den pg) (.pu []) [.fn 72 [] [], BV, .i .u64 (x : Int)] H = some (.b (quietB r c x), H) := by
  unfold Bv at hb
  exact PFn.call (fn72 hF (bo := true) h hx) (args := [BV, .i .u64 (x : Int)]) (by simp [snapArgs, sn_i, hb])

/-- a board, and a set of its squares -/
theorem body68 {pg : Pg} (hF : Free pg) {r c x : Nat} (h : Brd r c) (hx : x < 2 ^ (r * c)) (H : Heap) : ∃ H', bodyRun pg (den pg) 68 [.i .i64 (r : Int), .i .i64 (c : Int), .i .i64 (x : Int)] H = some (.tup [.ref H.length 0, .i .i64 0], H') ∧
    H'[H.length]? = some (.cells (bM r c) true) ∧ H.length < H'.length ∧ ∀ m, m < H.length → H'[m]? = H[m]? := by
  have hn := h.n36
  obtain ⟨H1, h1, h2, h3, h4⟩ := body59n (pg := pg) hF h H
  have ln := ld_n (pg := pg) (R := den pg) (r := r) (c := c) (f := mvTo r c (r * c)) h2
  have wn := wrap_u (m := r * c) (by omega)
  have sh := Dn.shl_i (k := .u64) (c := r * c) (by omega)
  have x0 : decide ((x : Int) < 0) = false := dF (by omega)
  have xl : decide (((2 ^ (r * c) : Nat) : Int) ≤ (x : Int)) = false := dF (by omega)
  have fd : ∀ (K : Heap) (o sz : Nat) (ag : Bool), dkc pg (den pg) (.fadr o sz ag) [.ref H.length 0] K = some (.ref H.length o, K) := fun K o sz ag => by rw [k_fadr]; simp
  refine ⟨H1, body_ofs (x := .ret) (e := [(6, .ref H.length 0), (7, .i .i64 0)]) (vs := [.ref H.length 0, .i .i64 0]) (d := d68) (by rw [hF.F]; rfl) rfl ?_ (.inl rfl) rfl, h2, h3, h4⟩
  generalize ((2 ^ (r * c) : Nat) : Int) = P2 at *
  generalize ((r * c : Nat) : Int) = N at *
  simp (disch := omega) [d68, c68, zipE, go_nil, go_last, go_past, go_pastR, go_blkN, go_blkR, go_blkE, go_skip, go_exit, go_ret, go_scope, go_seq, go_reg, go_regd, go_opdN, go_opd, go_opdG, grdd_b, grdd_u, stpd_some, find_some, go_block, go_cond, cnd_b, go_opsN, go_ops, go_opsG, grd_b, grd_u, stp_some, fin_some, up_some, cont_some, k_call, k_mv, k_pick, k_bin, k_eqB, k_eqA, k_not, k_neg, k_conv, k_alloc, k_boxA, k_boxI, k_boxB, k_boxN, k_boxBs, k_ldR, k_ldA, k_ldI, k_ldB, k_stA, k_stI, k_stB, ldC_some, stC_some, k_mkfn, k_slc, k_slcA, k_ixA, k_ixBs, k_ixSl, k_fadr, k_fld, k_ext, k_len, k_app, k_mn, k_mx, k_nilck, k_build, k_bsl1, k_bsl2, b_add, b_sub, b_mul, b_eql, b_neq, b_lss, b_leq, b_gtr, b_geq, Dn.setLast, Dn.getLast, evalO, mapO, Dn.get, putE, keepE_nil, keepE_cons, kp_some, kp_none, TV.one, TV.isAgg, Dn.part, k_boxR, negb, at0, at1, at2, at3, at4, dT, dF, wrapR_i64, Option.bind_some, Option.map_some, sh_fn, h1, x0, fd, ln, wn, sh, xl]

theorem fn39 {pg : Pg} (hF : Free pg) {r c x : Nat} (h : Brd r c) (hx : x < 2 ^ (r * c)) : PFn pg 39 [.i .i64 (r : Int), .i .i64 (c : Int), .i .i64 (x : Int)] (.tup [.b (quietB r c x), .i .i64 0]) := by
  have h64 := lv64 h
  obtain ⟨H1, h1, h2, h3, h4⟩ := body68 (pg := pg) hF h hx []
  simp only [List.length_nil] at h1 h2
  have c72 := (Bv.ref h2).call72 (pg := pg) hF h hx
  have wx := wrap_u (m := x) (by omega)
  refine .of2 (x := .ret) (e := [(6, .b (quietB r c x)), (7, .i .i64 0)]) (H' := H1) (hF.S _ _ (by decide)) (d := d39) (by rw [hF.F]; rfl) rfl ?_ (.inl rfl) rfl (by simp) (by simp [sn_i, sn_b, sn_nil, sn8_i, sn8_b, sn8_nil, sn7_i, sn7_b, sn_sl, sn8_sl, slB_some, sn_tup, sn_agg, sn8_agg, mapO, elems])
  simp (disch := omega) [d39, c39, zipE, go_nil, go_last, go_past, go_pastR, go_blkN, go_blkR, go_blkE, go_skip, go_exit, go_ret, go_scope, go_seq, go_reg, go_regd, go_opdN, go_opd, go_opdG, grdd_b, grdd_u, stpd_some, find_some, go_block, go_cond, cnd_b, go_opsN, go_ops, go_opsG, grd_b, grd_u, stp_some, fin_some, up_some, cont_some, k_call, k_mv, k_pick, k_bin, k_eqB, k_eqA, k_not, k_neg, k_conv, k_alloc, k_boxA, k_boxI, k_boxB, k_boxN, k_boxBs, k_ldR, k_ldA, k_ldI, k_ldB, k_stA, k_stI, k_stB, ldC_some, stC_some, k_mkfn, k_slc, k_slcA, k_ixA, k_ixBs, k_ixSl, k_fadr, k_fld, k_ext, k_len, k_app, k_mn, k_mx, k_nilck, k_build, k_bsl1, k_bsl2, b_add, b_sub, b_mul, b_eql, b_neq, b_lss, b_leq, b_gtr, b_geq, Dn.setLast, Dn.getLast, evalO, mapO, Dn.get, putE, keepE_nil, keepE_cons, kp_some, kp_none, TV.one, TV.isAgg, Dn.part, k_boxR, negb, at0, at1, at2, at3, at4, dT, dF, wrapR_i64, Option.bind_some, Option.map_some, sh_fn, h1, wx, c72]

/-! the number of squares of a set -/
theorem pop_one (y : Nat) : pop 1 y = y % 2 := by simp [pop]
theorem pop_step (i x : Nat) : pop (i + 1) x = pop i x + x / 2 ^ i % 2 := by rw [pop_add i 1 x, pop_one]
theorem pop_zero : ∀ n, pop n 0 = 0
  | 0 => rfl
  | n + 1 => by simp [pop, pop_zero n]

theorem l48_all {pg : Pg} {x : Nat} (hx : x < 18446744073709551616) {H : Heap} : ∀ (d i : Nat), i + d = 64 → ∃ e, den pg l48_1 [(0, .i .i64 (x : Int)), (3, .i .i64 (pop i x : Int)), (4, .i .i64 (i : Int))] H = some ⟨.exit 0, e, H⟩ ∧ Dn.get e 3 = some (.i .i64 (pop 64 x : Int)) := by
  intro d
  induction d with
  | zero =>
    intro i hd
    obtain rfl : i = 64 := by omega
    have sh := Dn.shr_i (k := .i64) (m := x) (c := 64) (by omega)
    have hz : x / 2 ^ 64 = 0 := Nat.div_eq_of_lt (by omega)
    rw [hz] at sh
    simp only [Int.natCast_zero, Int.cast_ofNat_Int] at sh ⊢
    have key : ∀ P : Int, ∃ e, den pg l48_1 [(0, .i .i64 (x : Int)), (3, .i .i64 P), (4, .i .i64 64)] H = some ⟨.exit 0, e, H⟩ ∧ Dn.get e 3 = some (.i .i64 P) := fun P => ⟨_, by
      rw [l48_1, den_loop]
      simp (disch := omega) [b48_0, go_nil, go_last, go_past, go_pastR, go_blkN, go_blkR, go_blkE, go_skip, go_exit, go_ret, go_scope, go_seq, go_reg, go_regd, go_opdN, go_opd, go_opdG, grdd_b, grdd_u, stpd_some, find_some, go_block, go_cond, cnd_b, go_opsN, go_ops, go_opsG, grd_b, grd_u, stp_some, fin_some, up_some, cont_some, k_call, k_mv, k_pick, k_bin, k_eqB, k_eqA, k_not, k_neg, k_conv, k_alloc, k_boxA, k_boxI, k_boxB, k_boxN, k_boxBs, k_ldR, k_ldA, k_ldI, k_ldB, k_stA, k_stI, k_stB, ldC_some, stC_some, k_mkfn, k_slc, k_slcA, k_ixA, k_ixBs, k_ixSl, k_fadr, k_fld, k_ext, k_len, k_app, k_mn, k_mx, k_nilck, k_build, k_bsl1, k_bsl2, b_add, b_sub, b_mul, b_eql, b_neq, b_lss, b_leq, b_gtr, b_geq, Dn.setLast, Dn.getLast, evalO, mapO, Dn.get, putE, keepE_nil, keepE_cons, kp_some, kp_none, TV.one, TV.isAgg, Dn.part, k_boxR, negb, at0, at1, at2, at3, at4, dT, dF, wrapR_i64, Option.bind_some, Option.map_some, sh]
      rfl, rfl⟩
    exact key _
  | succ d ih =>
    intro i hd
    have sh := Dn.shr_i (k := .i64) (m := x) (c := i) (by omega)
    by_cases hz : x / 2 ^ i = 0
    · rw [hz] at sh
      have hp : pop 64 x = pop i x := by
        have := pop_add i (64 - i) x
        rw [show i + (64 - i) = 64 by omega, hz, pop_zero] at this
        omega
      rw [hp]
      simp only [Int.natCast_zero] at sh
      have key : ∀ P : Int, ∃ e, den pg l48_1 [(0, .i .i64 (x : Int)), (3, .i .i64 P), (4, .i .i64 (i : Int))] H = some ⟨.exit 0, e, H⟩ ∧ Dn.get e 3 = some (.i .i64 P) := fun P => ⟨_, by
        rw [l48_1, den_loop]
        simp (disch := omega) [b48_0, go_nil, go_last, go_past, go_pastR, go_blkN, go_blkR, go_blkE, go_skip, go_exit, go_ret, go_scope, go_seq, go_reg, go_regd, go_opdN, go_opd, go_opdG, grdd_b, grdd_u, stpd_some, find_some, go_block, go_cond, cnd_b, go_opsN, go_ops, go_opsG, grd_b, grd_u, stp_some, fin_some, up_some, cont_some, k_call, k_mv, k_pick, k_bin, k_eqB, k_eqA, k_not, k_neg, k_conv, k_alloc, k_boxA, k_boxI, k_boxB, k_boxN, k_boxBs, k_ldR, k_ldA, k_ldI, k_ldB, k_stA, k_stI, k_stB, ldC_some, stC_some, k_mkfn, k_slc, k_slcA, k_ixA, k_ixBs, k_ixSl, k_fadr, k_fld, k_ext, k_len, k_app, k_mn, k_mx, k_nilck, k_build, k_bsl1, k_bsl2, b_add, b_sub, b_mul, b_eql, b_neq, b_lss, b_leq, b_gtr, b_geq, Dn.setLast, Dn.getLast, evalO, mapO, Dn.get, putE, keepE_nil, keepE_cons, kp_some, kp_none, TV.one, TV.isAgg, Dn.part, k_boxR, negb, at0, at1, at2, at3, at4, dT, dF, wrapR_i64, Option.bind_some, Option.map_some, sh]
        rfl, rfl⟩
      exact key _
    · obtain ⟨e, e1, e2⟩ := ih (i + 1) (by omega)
      have rm := tmod_nat (x / 2 ^ i) 2
      simp only [Int.cast_ofNat_Int] at rm
      have hps := pop_step i x
      have hpl := pop_le i x
      have hm : x / 2 ^ i % 2 < 2 := Nat.mod_lt _ (by decide)
      generalize x / 2 ^ i % 2 = Y at *
      generalize x / 2 ^ i = D at *
      refine ⟨e, Eq.trans ?_ e1, e2⟩
      rw [hps]
      generalize pop i x = P at *
      have w1 : wrapR .i64 ((P : Int) + (Y : Int)) = .i .i64 ((P + Y : Nat) : Int) := by rw [show (P : Int) + Y = ((P + Y : Nat) : Int) by omega]; exact wrapR_i64 (by omega)
      rw [l48_1, den_loop]
      simp (disch := omega) [l48_1, b48_0, go_nil, go_last, go_past, go_pastR, go_blkN, go_blkR, go_blkE, go_skip, go_exit, go_ret, go_scope, go_seq, go_reg, go_regd, go_opdN, go_opd, go_opdG, grdd_b, grdd_u, stpd_some, find_some, go_block, go_cond, cnd_b, go_opsN, go_ops, go_opsG, grd_b, grd_u, stp_some, fin_some, up_some, cont_some, k_call, k_mv, k_pick, k_bin, k_eqB, k_eqA, k_not, k_neg, k_conv, k_alloc, k_boxA, k_boxI, k_boxB, k_boxN, k_boxBs, k_ldR, k_ldA, k_ldI, k_ldB, k_stA, k_stI, k_stB, ldC_some, stC_some, k_mkfn, k_slc, k_slcA, k_ixA, k_ixBs, k_ixSl, k_fadr, k_fld, k_ext, k_len, k_app, k_mn, k_mx, k_nilck, k_build, k_bsl1, k_bsl2, b_add, b_sub, b_mul, b_eql, b_neq, b_lss, b_leq, b_gtr, b_geq, Dn.setLast, Dn.getLast, evalO, mapO, Dn.get, putE, keepE_nil, keepE_cons, kp_some, kp_none, TV.one, TV.isAgg, Dn.part, k_boxR, negb, at0, at1, at2, at3, at4, dT, dF, wrapR_i64, Option.bind_some, Option.map_some, sh, b_rem, rm, w1]

theorem fn48 {pg : Pg} (hF : Free pg) {x : Nat} (hx : x < 9223372036854775808) : PFn pg 48 [.i .i64 (x : Int)] (.i .i64 (pop 64 x : Int)) := by
  obtain ⟨e, e1, e2⟩ := l48_all (pg := pg) (x := x) (by omega) (H := []) 64 0 (by omega)
  have h0 : ((pop 0 x : Nat) : Int) = 0 := rfl
  rw [h0] at e1
  simp only [Int.natCast_zero] at e1
  refine .inr ⟨hF.S _ _ (by decide), .i .i64 (pop 64 x : Int), [], body_of (x := .ret) (e := [(2, .i .i64 (pop 64 x : Int))]) (d := d48) (by rw [hF.F]; rfl) rfl ?_ (.inl rfl) rfl, sn_i _ _ _ _⟩
  generalize (pop 64 x : Int) = P at *
  simp (disch := omega) [d48, c48, zipE, go_nil, go_last, go_past, go_pastR, go_blkN, go_blkR, go_blkE, go_skip, go_exit, go_ret, go_scope, go_seq, go_reg, go_regd, go_opdN, go_opd, go_opdG, grdd_b, grdd_u, stpd_some, find_some, go_block, go_cond, cnd_b, go_opsN, go_ops, go_opsG, grd_b, grd_u, stp_some, fin_some, up_some, cont_some, k_call, k_mv, k_pick, k_bin, k_eqB, k_eqA, k_not, k_neg, k_conv, k_alloc, k_boxA, k_boxI, k_boxB, k_boxN, k_boxBs, k_ldR, k_ldA, k_ldI, k_ldB, k_stA, k_stI, k_stB, ldC_some, stC_some, k_mkfn, k_slc, k_slcA, k_ixA, k_ixBs, k_ixSl, k_fadr, k_fld, k_ext, k_len, k_app, k_mn, k_mx, k_nilck, k_build, k_bsl1, k_bsl2, b_add, b_sub, b_mul, b_eql, b_neq, b_lss, b_leq, b_gtr, b_geq, Dn.setLast, Dn.getLast, evalO, mapO, Dn.get, putE, keepE_nil, keepE_cons, kp_some, kp_none, TV.one, TV.isAgg, Dn.part, k_boxR, negb, at0, at1, at2, at3, at4, dT, dF, wrapR_i64, Option.bind_some, Option.map_some, go_denK (c := l48_1) rfl, e1, e2]

theorem call48 {pg : Pg} (hF : Free pg) {x : Nat} (hx : x < 9223372036854775808) (H : Heap) : callRun pg (den pg) (.pu []) [.fn 48 [] [], .i .i64 (x : Int)] H = some (.i .i64 (pop 64 x : Int), H) := PFn.at (fn48 hF hx) (fun H => sa_I sa_0) H

/-! the squares of a colour, in the reference -/
theorem l41_all {pg : Pg} (hF : Free pg) {r c col : Nat} (h : Brd r c) {H : Heap} : ∀ (d k : Nat), k + d = r * c →
    ∃ e, den pg l41_1 [(0, .i .i64 (r : Int)), (1, .i .i64 (c : Int)), (2, .i .i64 (col : Int)), (7, .i .i64 (colTo c col k : Int)), (8, .i .i64 (k : Int))] H = some ⟨.exit 0, e, H⟩ ∧ Dn.get e 7 = some (.i .i64 (colM r c col : Int))
  | 0, k, hd => by
    obtain ⟨hcast, wn⟩ := rc_facts h
    obtain rfl : k = r * c := by omega
    refine ⟨_, by
      rw [hcast, l41_1, den_loop]
      simp (disch := omega) [b41_0, go_nil, go_last, go_past, go_pastR, go_blkN, go_blkR, go_blkE, go_skip, go_exit, go_ret, go_scope, go_seq, go_reg, go_regd, go_opdN, go_opd, go_opdG, grdd_b, grdd_u, stpd_some, find_some, go_block, go_cond, cnd_b, go_opsN, go_ops, go_opsG, grd_b, grd_u, stp_some, fin_some, up_some, cont_some, k_call, k_mv, k_pick, k_bin, k_eqB, k_eqA, k_not, k_neg, k_conv, k_alloc, k_boxA, k_boxI, k_boxB, k_boxN, k_boxBs, k_ldR, k_ldA, k_ldI, k_ldB, k_stA, k_stI, k_stB, ldC_some, stC_some, k_mkfn, k_slc, k_slcA, k_ixA, k_ixBs, k_ixSl, k_fadr, k_fld, k_ext, k_len, k_app, k_mn, k_mx, k_nilck, k_build, k_bsl1, k_bsl2, b_add, b_sub, b_mul, b_eql, b_neq, b_lss, b_leq, b_gtr, b_geq, Dn.setLast, Dn.getLast, evalO, mapO, Dn.get, putE, keepE_nil, keepE_cons, kp_some, kp_none, TV.one, TV.isAgg, Dn.part, k_boxR, negb, at0, at1, at2, at3, at4, dT, dF, wrapR_i64, Option.bind_some, Option.map_some, wn]
      rfl, rfl⟩
  | d + 1, k, hd => by
    have hn := h.n36
    obtain ⟨hcast, wn⟩ := rc_facts h
    have hk : k < r * c := by omega
    obtain ⟨e, e1, e2⟩ := l41_all (pg := pg) hF (col := col) h (H := H) d (k + 1) (by omega)
    have c44 := PFn.at (fn44 (pg := pg) hF (c := c) (s := k) h.c1 (by omega)) (fun H => sa_I (sa_I sa_0)) H
    have hto : colTo c col (k + 1) = if colR c k = col then colTo c col k ||| 2 ^ k else colTo c col k := rfl
    have hclt := colTo_lt c col k
    have h2k : 2 ^ k < 2 ^ 37 := Nat.pow_lt_pow_right (by decide) (by omega)
    have o1 := or_ii (m := colTo c col k) (k := 2 ^ k) (by omega) (by omega)
    have sh := Dn.shl_i (k := .i64) (c := k) (by omega)
    refine ⟨e, Eq.trans ?_ e1, e2⟩
    rw [hto]
    by_cases hq : colR c k = col
    · rw [if_pos hq]
      rw [hq] at c44
      generalize colTo c col k ||| 2 ^ k = V at *
      generalize 2 ^ k = U at *
      rw [l41_1, den_loop]
      simp (disch := omega) [l41_1, b41_0, go_nil, go_last, go_past, go_pastR, go_blkN, go_blkR, go_blkE, go_skip, go_exit, go_ret, go_scope, go_seq, go_reg, go_regd, go_opdN, go_opd, go_opdG, grdd_b, grdd_u, stpd_some, find_some, go_block, go_cond, cnd_b, go_opsN, go_ops, go_opsG, grd_b, grd_u, stp_some, fin_some, up_some, cont_some, k_call, k_mv, k_pick, k_bin, k_eqB, k_eqA, k_not, k_neg, k_conv, k_alloc, k_boxA, k_boxI, k_boxB, k_boxN, k_boxBs, k_ldR, k_ldA, k_ldI, k_ldB, k_stA, k_stI, k_stB, ldC_some, stC_some, k_mkfn, k_slc, k_slcA, k_ixA, k_ixBs, k_ixSl, k_fadr, k_fld, k_ext, k_len, k_app, k_mn, k_mx, k_nilck, k_build, k_bsl1, k_bsl2, b_add, b_sub, b_mul, b_eql, b_neq, b_lss, b_leq, b_gtr, b_geq, Dn.setLast, Dn.getLast, evalO, mapO, Dn.get, putE, keepE_nil, keepE_cons, kp_some, kp_none, TV.one, TV.isAgg, Dn.part, k_boxR, negb, at0, at1, at2, at3, at4, dT, dF, wrapR_i64, Option.bind_some, Option.map_some, wn, c44, sh, o1]
    · rw [if_neg hq]
      have hne : (((colR c k : Nat) : Int) == (col : Int)) = false := beqF (by omega)
      generalize ((colR c k : Nat) : Int) = Y at *
      rw [l41_1, den_loop]
      simp (disch := omega) [l41_1, b41_0, go_nil, go_last, go_past, go_pastR, go_blkN, go_blkR, go_blkE, go_skip, go_exit, go_ret, go_scope, go_seq, go_reg, go_regd, go_opdN, go_opd, go_opdG, grdd_b, grdd_u, stpd_some, find_some, go_block, go_cond, cnd_b, go_opsN, go_ops, go_opsG, grd_b, grd_u, stp_some, fin_some, up_some, cont_some, k_call, k_mv, k_pick, k_bin, k_eqB, k_eqA, k_not, k_neg, k_conv, k_alloc, k_boxA, k_boxI, k_boxB, k_boxN, k_boxBs, k_ldR, k_ldA, k_ldI, k_ldB, k_stA, k_stI, k_stB, ldC_some, stC_some, k_mkfn, k_slc, k_slcA, k_ixA, k_ixBs, k_ixSl, k_fadr, k_fld, k_ext, k_len, k_app, k_mn, k_mx, k_nilck, k_build, k_bsl1, k_bsl2, b_add, b_sub, b_mul, b_eql, b_neq, b_lss, b_leq, b_gtr, b_geq, Dn.setLast, Dn.getLast, evalO, mapO, Dn.get, putE, keepE_nil, keepE_cons, kp_some, kp_none, TV.one, TV.isAgg, Dn.part, k_boxR, negb, at0, at1, at2, at3, at4, dT, dF, wrapR_i64, Option.bind_some, Option.map_some, wn, c44, hne]

theorem fn41 {pg : Pg} (hF : Free pg) {r c col : Nat} (h : Brd r c) : PFn pg 41 [.i .i64 (r : Int), .i .i64 (c : Int), .i .i64 (col : Int)] (.i .i64 (colM r c col : Int)) := by
  obtain ⟨e, e1, e2⟩ := l41_all (pg := pg) hF (col := col) h (H := []) (r * c) 0 (by omega)
  have h0 : ((colTo c col 0 : Nat) : Int) = 0 := rfl
  rw [h0] at e1
  simp only [Int.natCast_zero] at e1
  refine .inr ⟨hF.S _ _ (by decide), .i .i64 (colM r c col : Int), [], body_of (x := .ret) (e := [(6, .i .i64 (colM r c col : Int))]) (d := d41) (by rw [hF.F]; rfl) rfl ?_ (.inl rfl) rfl, sn_i _ _ _ _⟩
  generalize (colM r c col : Int) = P at *
  simp (disch := omega) [d41, c41, zipE, go_nil, go_last, go_past, go_pastR, go_blkN, go_blkR, go_blkE, go_skip, go_exit, go_ret, go_scope, go_seq, go_reg, go_regd, go_opdN, go_opd, go_opdG, grdd_b, grdd_u, stpd_some, find_some, go_block, go_cond, cnd_b, go_opsN, go_ops, go_opsG, grd_b, grd_u, stp_some, fin_some, up_some, cont_some, k_call, k_mv, k_pick, k_bin, k_eqB, k_eqA, k_not, k_neg, k_conv, k_alloc, k_boxA, k_boxI, k_boxB, k_boxN, k_boxBs, k_ldR, k_ldA, k_ldI, k_ldB, k_stA, k_stI, k_stB, ldC_some, stC_some, k_mkfn, k_slc, k_slcA, k_ixA, k_ixBs, k_ixSl, k_fadr, k_fld, k_ext, k_len, k_app, k_mn, k_mx, k_nilck, k_build, k_bsl1, k_bsl2, b_add, b_sub, b_mul, b_eql, b_neq, b_lss, b_leq, b_gtr, b_geq, Dn.setLast, Dn.getLast, evalO, mapO, Dn.get, putE, keepE_nil, keepE_cons, kp_some, kp_none, TV.one, TV.isAgg, Dn.part, k_boxR, negb, at0, at1, at2, at3, at4, dT, dF, wrapR_i64, Option.bind_some, Option.map_some, go_denK (c := l41_1) rfl, e1, e2]

theorem call41 {pg : Pg} (hF : Free pg) {r c col : Nat} (h : Brd r c) (H : Heap) : callRun pg (den pg) (.pu []) [.fn 41 [] [], .i .i64 (r : Int), .i .i64 (c : Int), .i .i64 (col : Int)] H = some (.i .i64 (colM r c col : Int), H) := PFn.at (fn41 hF h) (fun H => sa_I (sa_I (sa_I sa_0))) H

/-! the squares around a set, in the reference -/
def rowTo (c i : Nat) : Nat → Nat
  | 0 => 0
  | k + 1 => if near c i k = true then rowTo c i k ||| 2 ^ k else rowTo c i k

theorem rowTo_lt (c i : Nat) : ∀ k, rowTo c i k < 2 ^ k
  | 0 => by simp [rowTo]
  | k + 1 => by
    have ih := rowTo_lt c i k
    have h2 : 2 ^ k < 2 ^ (k + 1) := Nat.pow_lt_pow_right (by decide) (by omega)
    rw [rowTo]
    split
    · exact or_lt (Nat.lt_trans ih h2) h2
    · exact Nat.lt_trans ih h2

theorem rowTo_bit (c i t : Nat) : ∀ k, (rowTo c i k).testBit t = (decide (t < k) && near c i t)
  | 0 => by simp [rowTo]
  | k + 1 => by
    have ih := rowTo_bit c i t k
    rw [rowTo]
    by_cases hk : t = k
    · subst hk
      have : decide (t < t) = false := dF (by omega)
      rw [this, Bool.false_and] at ih
      rw [dT (by omega : t < t + 1), Bool.true_and]
      split
      · rename_i h; rw [Nat.testBit_or, ih, Nat.testBit_two_pow, dT rfl, h]; rfl
      · rename_i h; rw [ih]; simpa using h
    · have e : decide (t < k + 1) = decide (t < k) := decide_eq_decide.2 (by omega)
      rw [e, ← ih]
      split
      · rw [Nat.testBit_or, Nat.testBit_two_pow, dF (by omega), Bool.or_false]
      · rfl

theorem rowTo_mv {r c i : Nat} (h : Brd r c) (hi : i < r * c) : rowTo c i (r * c) = mv r c i := by
  apply Nat.eq_of_testBit_eq
  intro t
  rw [rowTo_bit]
  by_cases ht : t < r * c
  · rw [dT ht, Bool.true_and, mv_near h hi ht]
  · rw [dF ht, Bool.false_and]
    exact (Nat.testBit_lt_two_pow (Nat.lt_of_lt_of_le (mv_bound h hi) (Nat.pow_le_pow_right (by decide) (by omega)))).symm

def besTo (r c x : Nat) : Nat → Nat
  | 0 => 0
  | i + 1 => if x.testBit i = true then besTo r c x i ||| mv r c i else besTo r c x i

theorem besTo_lt {r c x : Nat} (h : Brd r c) : ∀ i, i ≤ r * c → besTo r c x i < 2 ^ (r * c)
  | 0, _ => Nat.two_pow_pos _
  | i + 1, hi => by
    rw [besTo]
    split
    · exact or_lt (besTo_lt h i (by omega)) (mv_bound h (by omega))
    · exact besTo_lt h i (by omega)

theorem besTo_bit {r c x t : Nat} : ∀ i, (besTo r c x i).testBit t = true ↔ ∃ s, s < i ∧ x.testBit s = true ∧ (mv r c s).testBit t = true
  | 0 => by simp [besTo]
  | i + 1 => by
    rw [besTo]
    split
    · rename_i hb
      rw [Nat.testBit_or, Bool.or_eq_true, besTo_bit i]
      constructor
      · rintro (⟨s, h1, h2, h3⟩ | h3)
        · exact ⟨s, by omega, h2, h3⟩
        · exact ⟨i, by omega, hb, h3⟩
      · rintro ⟨s, h1, h2, h3⟩
        by_cases hs : s = i
        · subst hs; exact .inr h3
        · exact .inl ⟨s, by omega, h2, h3⟩
    · rename_i hb
      rw [besTo_bit i]
      constructor
      · rintro ⟨s, h1, h2, h3⟩; exact ⟨s, by omega, h2, h3⟩
      · rintro ⟨s, h1, h2, h3⟩
        by_cases hs : s = i
        · subst hs; exact absurd h2 hb
        · exact ⟨s, by omega, h2, h3⟩

theorem besTo_around {r c x : Nat} (h : Brd r c) (hx : x < 2 ^ (r * c)) : besTo r c x (r * c) = around r c x := by
  apply Nat.eq_of_testBit_eq
  intro t
  by_cases ht : t < r * c
  · have h1 := around_bit h hx ht
    have h2 := besTo_bit (r := r) (c := c) (x := x) (t := t) (r * c)
    have : (besTo r c x (r * c)).testBit t = true ↔ (around r c x).testBit t = true := by
      rw [h1, h2]
      constructor
      · rintro ⟨s, a1, a2, a3⟩; exact ⟨s, a2, a1, by rw [← mv_near h a1 ht]; exact a3⟩
      · rintro ⟨s, a2, a1, a3⟩; exact ⟨s, a1, a2, by rw [mv_near h a1 ht]; exact a3⟩
    cases hb : (besTo r c x (r * c)).testBit t <;> cases ha : (around r c x).testBit t <;> simp_all
  · rw [Nat.testBit_lt_two_pow (Nat.lt_of_lt_of_le (besTo_lt h _ (Nat.le_refl _)) (Nat.pow_le_pow_right (by decide) (by omega))), Nat.testBit_lt_two_pow (Nat.lt_of_lt_of_le (around_lt h hx) (Nat.pow_le_pow_right (by decide) (by omega)))]

theorem l67_1_all {pg : Pg} (hF : Free pg) {r c x i m : Nat} (h : Brd r c) (hi : i < r * c) (hm : m < 2 ^ (r * c)) {sd : Nat} (sh0 : binI .shr (.i .i64 (x : Int)) (.i .i64 (i : Int)) = some (.i .i64 (sd : Int))) (hsd : sd % 2 = 1) {H : Heap} : ∀ (d k : Nat), k + d = r * c →
    ∃ e, den pg l67_1 [(0, .i .i64 (r : Int)), (1, .i .i64 (c : Int)), (2, .i .i64 (x : Int)), (7, .i .i64 ((m ||| rowTo c i k : Nat) : Int)), (8, .i .i64 (i : Int)), (9, .i .i64 (k : Int))] H = some ⟨.exit 2, e, H⟩ ∧
      keepE [0, 1, 2, 7, 8] e = [(0, .i .i64 (r : Int)), (1, .i .i64 (c : Int)), (2, .i .i64 (x : Int)), (7, .i .i64 ((m ||| mv r c i : Nat) : Int)), (8, .i .i64 (i : Int))]
  | 0, k, hd => by
    obtain ⟨hcast, wn⟩ := rc_facts h
    obtain rfl : k = r * c := by omega
    rw [rowTo_mv h hi]
    have key : ∀ V : Int, ∃ e, den pg l67_1 [(0, .i .i64 (r : Int)), (1, .i .i64 (c : Int)), (2, .i .i64 (x : Int)), (7, .i .i64 V), (8, .i .i64 (i : Int)), (9, .i .i64 ((r * c : Nat) : Int))] H = some ⟨.exit 2, e, H⟩ ∧
      keepE [0, 1, 2, 7, 8] e = [(0, .i .i64 (r : Int)), (1, .i .i64 (c : Int)), (2, .i .i64 (x : Int)), (7, .i .i64 V), (8, .i .i64 (i : Int))] := fun V => ⟨_, by
      rw [hcast, l67_1, den_loop]
      simp (disch := omega) [b67_0, go_nil, go_last, go_past, go_pastR, go_blkN, go_blkR, go_blkE, go_skip, go_exit, go_ret, go_scope, go_seq, go_reg, go_regd, go_opdN, go_opd, go_opdG, grdd_b, grdd_u, stpd_some, find_some, go_block, go_cond, cnd_b, go_opsN, go_ops, go_opsG, grd_b, grd_u, stp_some, fin_some, up_some, cont_some, k_call, k_mv, k_pick, k_bin, k_eqB, k_eqA, k_not, k_neg, k_conv, k_alloc, k_boxA, k_boxI, k_boxB, k_boxN, k_boxBs, k_ldR, k_ldA, k_ldI, k_ldB, k_stA, k_stI, k_stB, ldC_some, stC_some, k_mkfn, k_slc, k_slcA, k_ixA, k_ixBs, k_ixSl, k_fadr, k_fld, k_ext, k_len, k_app, k_mn, k_mx, k_nilck, k_build, k_bsl1, k_bsl2, b_add, b_sub, b_mul, b_eql, b_neq, b_lss, b_leq, b_gtr, b_geq, Dn.setLast, Dn.getLast, evalO, mapO, Dn.get, putE, keepE_nil, keepE_cons, kp_some, kp_none, TV.one, TV.isAgg, Dn.part, k_boxR, negb, at0, at1, at2, at3, at4, dT, dF, wrapR_i64, Option.bind_some, Option.map_some, wn]
      rfl, rfl⟩
    exact key _
  | d + 1, k, hd => by
    have hn := h.n36
    obtain ⟨hcast, wn⟩ := rc_facts h
    have hk : k < r * c := by omega
    obtain ⟨e, e1, e2⟩ := l67_1_all (pg := pg) hF h hi hm sh0 hsd (H := H) d (k + 1) (by omega)
    have c62 := call62 (pg := pg) hF h.c1 h.c8 (a := i) (b := k) (by omega) (by omega) H
    have rm := tmod_nat sd 2
    simp only [Int.cast_ofNat_Int] at rm
    rw [hsd] at rm
    have h2k : 2 ^ k < 2 ^ 37 := Nat.pow_lt_pow_right (by decide) (by omega)
    have h2n : 2 ^ (r * c) ≤ 2 ^ 37 := Nat.pow_le_pow_right (by decide) (by omega)
    have hrl := rowTo_lt c i k
    have hrk : 2 ^ k ≤ 2 ^ (r * c) := Nat.pow_le_pow_right (by decide) (by omega)
    have hml : m ||| rowTo c i k < 2 ^ (r * c) := or_lt hm (by omega)
    have o1 := or_ii (m := m ||| rowTo c i k) (k := 2 ^ k) (by omega) (by omega)
    have sh := Dn.shl_i (k := .i64) (c := k) (by omega)
    have hto : rowTo c i (k + 1) = if near c i k = true then rowTo c i k ||| 2 ^ k else rowTo c i k := rfl
    refine ⟨e, Eq.trans ?_ e1, e2⟩
    rw [hto]
    cases hnr : near c i k with
    | true =>
      rw [hnr] at c62
      rw [if_pos rfl, ← Nat.or_assoc]
      generalize (m ||| rowTo c i k) ||| 2 ^ k = V at *
      generalize m ||| rowTo c i k = W at *
      generalize 2 ^ k = U at *
      rw [l67_1, den_loop]
      simp (disch := omega) [l67_1, b67_0, go_nil, go_last, go_past, go_pastR, go_blkN, go_blkR, go_blkE, go_skip, go_exit, go_ret, go_scope, go_seq, go_reg, go_regd, go_opdN, go_opd, go_opdG, grdd_b, grdd_u, stpd_some, find_some, go_block, go_cond, cnd_b, go_opsN, go_ops, go_opsG, grd_b, grd_u, stp_some, fin_some, up_some, cont_some, k_call, k_mv, k_pick, k_bin, k_eqB, k_eqA, k_not, k_neg, k_conv, k_alloc, k_boxA, k_boxI, k_boxB, k_boxN, k_boxBs, k_ldR, k_ldA, k_ldI, k_ldB, k_stA, k_stI, k_stB, ldC_some, stC_some, k_mkfn, k_slc, k_slcA, k_ixA, k_ixBs, k_ixSl, k_fadr, k_fld, k_ext, k_len, k_app, k_mn, k_mx, k_nilck, k_build, k_bsl1, k_bsl2, b_add, b_sub, b_mul, b_eql, b_neq, b_lss, b_leq, b_gtr, b_geq, Dn.setLast, Dn.getLast, evalO, mapO, Dn.get, putE, keepE_nil, keepE_cons, kp_some, kp_none, TV.one, TV.isAgg, Dn.part, k_boxR, negb, at0, at1, at2, at3, at4, dT, dF, wrapR_i64, Option.bind_some, Option.map_some, wn, sh0, b_rem, rm, c62, sh, o1]
    | false =>
      rw [hnr] at c62
      rw [if_neg (by simp)]
      generalize m ||| rowTo c i k = W at *
      rw [l67_1, den_loop]
      simp (disch := omega) [l67_1, b67_0, go_nil, go_last, go_past, go_pastR, go_blkN, go_blkR, go_blkE, go_skip, go_exit, go_ret, go_scope, go_seq, go_reg, go_regd, go_opdN, go_opd, go_opdG, grdd_b, grdd_u, stpd_some, find_some, go_block, go_cond, cnd_b, go_opsN, go_ops, go_opsG, grd_b, grd_u, stp_some, fin_some, up_some, cont_some, k_call, k_mv, k_pick, k_bin, k_eqB, k_eqA, k_not, k_neg, k_conv, k_alloc, k_boxA, k_boxI, k_boxB, k_boxN, k_boxBs, k_ldR, k_ldA, k_ldI, k_ldB, k_stA, k_stI, k_stB, ldC_some, stC_some, k_mkfn, k_slc, k_slcA, k_ixA, k_ixBs, k_ixSl, k_fadr, k_fld, k_ext, k_len, k_app, k_mn, k_mx, k_nilck, k_build, k_bsl1, k_bsl2, b_add, b_sub, b_mul, b_eql, b_neq, b_lss, b_leq, b_gtr, b_geq, Dn.setLast, Dn.getLast, evalO, mapO, Dn.get, putE, keepE_nil, keepE_cons, kp_some, kp_none, TV.one, TV.isAgg, Dn.part, k_boxR, negb, at0, at1, at2, at3, at4, dT, dF, wrapR_i64, Option.bind_some, Option.map_some, wn, sh0, b_rem, rm, c62]

theorem l67_3_all {pg : Pg} (hF : Free pg) {r c x : Nat} (h : Brd r c) (hx : x < 2 ^ (r * c)) {H : Heap} : ∀ (d i : Nat), i + d = r * c →
    ∃ e, den pg l67_3 [(0, .i .i64 (r : Int)), (1, .i .i64 (c : Int)), (2, .i .i64 (x : Int)), (7, .i .i64 (besTo r c x i : Int)), (8, .i .i64 (i : Int))] H = some ⟨.exit 0, e, H⟩ ∧ Dn.get e 7 = some (.i .i64 (around r c x : Int))
  | 0, i, hd => by
    obtain ⟨hcast, wn⟩ := rc_facts h
    obtain rfl : i = r * c := by omega
    rw [besTo_around h hx]
    have key : ∀ V : Int, ∃ e, den pg l67_3 [(0, .i .i64 (r : Int)), (1, .i .i64 (c : Int)), (2, .i .i64 (x : Int)), (7, .i .i64 V), (8, .i .i64 ((r * c : Nat) : Int))] H = some ⟨.exit 0, e, H⟩ ∧ Dn.get e 7 = some (.i .i64 V) := fun V => ⟨_, by
      rw [hcast, l67_3, den_loop]
      simp (disch := omega) [b67_2, go_nil, go_last, go_past, go_pastR, go_blkN, go_blkR, go_blkE, go_skip, go_exit, go_ret, go_scope, go_seq, go_reg, go_regd, go_opdN, go_opd, go_opdG, grdd_b, grdd_u, stpd_some, find_some, go_block, go_cond, cnd_b, go_opsN, go_ops, go_opsG, grd_b, grd_u, stp_some, fin_some, up_some, cont_some, k_call, k_mv, k_pick, k_bin, k_eqB, k_eqA, k_not, k_neg, k_conv, k_alloc, k_boxA, k_boxI, k_boxB, k_boxN, k_boxBs, k_ldR, k_ldA, k_ldI, k_ldB, k_stA, k_stI, k_stB, ldC_some, stC_some, k_mkfn, k_slc, k_slcA, k_ixA, k_ixBs, k_ixSl, k_fadr, k_fld, k_ext, k_len, k_app, k_mn, k_mx, k_nilck, k_build, k_bsl1, k_bsl2, b_add, b_sub, b_mul, b_eql, b_neq, b_lss, b_leq, b_gtr, b_geq, Dn.setLast, Dn.getLast, evalO, mapO, Dn.get, putE, keepE_nil, keepE_cons, kp_some, kp_none, TV.one, TV.isAgg, Dn.part, k_boxR, negb, at0, at1, at2, at3, at4, dT, dF, wrapR_i64, Option.bind_some, Option.map_some, wn]
      rfl, rfl⟩
    exact key _
  | d + 1, i, hd => by
    have hn := h.n36
    obtain ⟨hcast, wn⟩ := rc_facts h
    have hi : i < r * c := by omega
    obtain ⟨e, e1, e2⟩ := l67_3_all (pg := pg) hF h hx (H := H) d (i + 1) (by omega)
    have sh0 := Dn.shr_i (k := .i64) (m := x) (c := i) (by omega)
    have hto : besTo r c x (i + 1) = if x.testBit i = true then besTo r c x i ||| mv r c i else besTo r c x i := rfl
    have hbl := besTo_lt (x := x) h i (by omega)
    have hbit : x.testBit i = decide (x / 2 ^ i % 2 = 1) := by
      rw [Nat.testBit_eq_decide_div_mod_eq]
    refine ⟨e, Eq.trans ?_ e1, e2⟩
    rw [hto]
    by_cases hb : x / 2 ^ i % 2 = 1
    · rw [hbit, dT hb, if_pos rfl]
      obtain ⟨e', f1, f2⟩ := l67_1_all (pg := pg) hF h hi hbl sh0 hb (H := H) (r * c) 0 (by omega)
      have h0 : besTo r c x i ||| rowTo c i 0 = besTo r c x i := by simp [rowTo]
      rw [h0] at f1
      simp only [Int.natCast_zero] at f1
      have g0 := keep_get f2 (s := 0) (by simp) rfl
      have g1 := keep_get f2 (s := 1) (by simp) rfl
      have g2 := keep_get f2 (s := 2) (by simp) rfl
      have g7 := keep_get f2 (s := 7) (by simp) rfl
      have g8 := keep_get f2 (s := 8) (by simp) rfl
      generalize besTo r c x i ||| mv r c i = V at *
      rw [l67_3, den_loop]
      simp (disch := omega) [l67_3, b67_2, go_nil, go_last, go_past, go_pastR, go_blkN, go_blkR, go_blkE, go_skip, go_exit, go_ret, go_scope, go_seq, go_reg, go_regd, go_opdN, go_opd, go_opdG, grdd_b, grdd_u, stpd_some, find_some, go_block, go_cond, cnd_b, go_opsN, go_ops, go_opsG, grd_b, grd_u, stp_some, fin_some, up_some, cont_some, k_call, k_mv, k_pick, k_bin, k_eqB, k_eqA, k_not, k_neg, k_conv, k_alloc, k_boxA, k_boxI, k_boxB, k_boxN, k_boxBs, k_ldR, k_ldA, k_ldI, k_ldB, k_stA, k_stI, k_stB, ldC_some, stC_some, k_mkfn, k_slc, k_slcA, k_ixA, k_ixBs, k_ixSl, k_fadr, k_fld, k_ext, k_len, k_app, k_mn, k_mx, k_nilck, k_build, k_bsl1, k_bsl2, b_add, b_sub, b_mul, b_eql, b_neq, b_lss, b_leq, b_gtr, b_geq, Dn.setLast, Dn.getLast, evalO, mapO, Dn.get, putE, keepE_nil, keepE_cons, kp_some, kp_none, TV.one, TV.isAgg, Dn.part, k_boxR, negb, at0, at1, at2, at3, at4, dT, dF, wrapR_i64, Option.bind_some, Option.map_some, wn, go_denK (c := l67_1) rfl, f1, g0, g1, g2, g7, g8]
    · rw [hbit, dF hb, if_neg (by simp)]
      have rm := tmod_nat (x / 2 ^ i) 2
      simp only [Int.cast_ofNat_Int] at rm
      have h0 : x / 2 ^ i % 2 = 0 := by omega
      rw [h0] at rm
      have hpos : (0 : Int) < (r : Int) * c := by rw [← hcast]; omega
      generalize x / 2 ^ i = D at *
      have hin : ∀ V : Int, ∃ e', den pg l67_1 [(0, .i .i64 (r : Int)), (1, .i .i64 (c : Int)), (2, .i .i64 (x : Int)), (7, .i .i64 V), (8, .i .i64 (i : Int)), (9, .i .i64 0)] H = some ⟨.exit 2, e', H⟩ ∧ keepE [0, 1, 2, 7, 8] e' = [(0, .i .i64 (r : Int)), (1, .i .i64 (c : Int)), (2, .i .i64 (x : Int)), (7, .i .i64 V), (8, .i .i64 (i : Int))] := fun V => ⟨_, by
        rw [l67_1, den_loop]
        simp (disch := omega) [b67_0, go_nil, go_last, go_past, go_pastR, go_blkN, go_blkR, go_blkE, go_skip, go_exit, go_ret, go_scope, go_seq, go_reg, go_regd, go_opdN, go_opd, go_opdG, grdd_b, grdd_u, stpd_some, find_some, go_block, go_cond, cnd_b, go_opsN, go_ops, go_opsG, grd_b, grd_u, stp_some, fin_some, up_some, cont_some, k_call, k_mv, k_pick, k_bin, k_eqB, k_eqA, k_not, k_neg, k_conv, k_alloc, k_boxA, k_boxI, k_boxB, k_boxN, k_boxBs, k_ldR, k_ldA, k_ldI, k_ldB, k_stA, k_stI, k_stB, ldC_some, stC_some, k_mkfn, k_slc, k_slcA, k_ixA, k_ixBs, k_ixSl, k_fadr, k_fld, k_ext, k_len, k_app, k_mn, k_mx, k_nilck, k_build, k_bsl1, k_bsl2, b_add, b_sub, b_mul, b_eql, b_neq, b_lss, b_leq, b_gtr, b_geq, Dn.setLast, Dn.getLast, evalO, mapO, Dn.get, putE, keepE_nil, keepE_cons, kp_some, kp_none, TV.one, TV.isAgg, Dn.part, k_boxR, negb, at0, at1, at2, at3, at4, dT, dF, wrapR_i64, Option.bind_some, Option.map_some, wn, sh0, b_rem, rm]
        rfl, rfl⟩
      generalize (besTo r c x i : Int) = V at *
      obtain ⟨e', f1, f2⟩ := hin V
      have g0 := keep_get f2 (s := 0) (by simp) rfl
      have g1 := keep_get f2 (s := 1) (by simp) rfl
      have g2 := keep_get f2 (s := 2) (by simp) rfl
      have g7 := keep_get f2 (s := 7) (by simp) rfl
      have g8 := keep_get f2 (s := 8) (by simp) rfl
      rw [l67_3, den_loop]
      simp (disch := omega) [l67_3, b67_2, go_nil, go_last, go_past, go_pastR, go_blkN, go_blkR, go_blkE, go_skip, go_exit, go_ret, go_scope, go_seq, go_reg, go_regd, go_opdN, go_opd, go_opdG, grdd_b, grdd_u, stpd_some, find_some, go_block, go_cond, cnd_b, go_opsN, go_ops, go_opsG, grd_b, grd_u, stp_some, fin_some, up_some, cont_some, k_call, k_mv, k_pick, k_bin, k_eqB, k_eqA, k_not, k_neg, k_conv, k_alloc, k_boxA, k_boxI, k_boxB, k_boxN, k_boxBs, k_ldR, k_ldA, k_ldI, k_ldB, k_stA, k_stI, k_stB, ldC_some, stC_some, k_mkfn, k_slc, k_slcA, k_ixA, k_ixBs, k_ixSl, k_fadr, k_fld, k_ext, k_len, k_app, k_mn, k_mx, k_nilck, k_build, k_bsl1, k_bsl2, b_add, b_sub, b_mul, b_eql, b_neq, b_lss, b_leq, b_gtr, b_geq, Dn.setLast, Dn.getLast, evalO, mapO, Dn.get, putE, keepE_nil, keepE_cons, kp_some, kp_none, TV.one, TV.isAgg, Dn.part, k_boxR, negb, at0, at1, at2, at3, at4, dT, dF, wrapR_i64, Option.bind_some, Option.map_some, wn, go_denK (c := l67_1) rfl, f1, g0, g1, g2, g7, g8]

theorem fn67 {pg : Pg} (hF : Free pg) {r c x : Nat} (h : Brd r c) (hx : x < 2 ^ (r * c)) : PFn pg 67 [.i .i64 (r : Int), .i .i64 (c : Int), .i .i64 (x : Int)] (.i .i64 (around r c x : Int)) := by
  obtain ⟨e, e1, e2⟩ := l67_3_all (pg := pg) hF h hx (H := []) (r * c) 0 (by omega)
  have h0 : ((besTo r c x 0 : Nat) : Int) = 0 := rfl
  rw [h0] at e1
  simp only [Int.natCast_zero] at e1
  refine .inr ⟨hF.S _ _ (by decide), .i .i64 (around r c x : Int), [], body_of (x := .ret) (e := [(6, .i .i64 (around r c x : Int))]) (d := d67) (by rw [hF.F]; rfl) rfl ?_ (.inl rfl) rfl, sn_i _ _ _ _⟩
  generalize (around r c x : Int) = P at *
  simp (disch := omega) [d67, c67, zipE, go_nil, go_last, go_past, go_pastR, go_blkN, go_blkR, go_blkE, go_skip, go_exit, go_ret, go_scope, go_seq, go_reg, go_regd, go_opdN, go_opd, go_opdG, grdd_b, grdd_u, stpd_some, find_some, go_block, go_cond, cnd_b, go_opsN, go_ops, go_opsG, grd_b, grd_u, stp_some, fin_some, up_some, cont_some, k_call, k_mv, k_pick, k_bin, k_eqB, k_eqA, k_not, k_neg, k_conv, k_alloc, k_boxA, k_boxI, k_boxB, k_boxN, k_boxBs, k_ldR, k_ldA, k_ldI, k_ldB, k_stA, k_stI, k_stB, ldC_some, stC_some, k_mkfn, k_slc, k_slcA, k_ixA, k_ixBs, k_ixSl, k_fadr, k_fld, k_ext, k_len, k_app, k_mn, k_mx, k_nilck, k_build, k_bsl1, k_bsl2, b_add, b_sub, b_mul, b_eql, b_neq, b_lss, b_leq, b_gtr, b_geq, Dn.setLast, Dn.getLast, evalO, mapO, Dn.get, putE, keepE_nil, keepE_cons, kp_some, kp_none, TV.one, TV.isAgg, Dn.part, k_boxR, negb, at0, at1, at2, at3, at4, dT, dF, wrapR_i64, Option.bind_some, Option.map_some, go_denK (c := l67_3) rfl, e1, e2]

theorem call67 {pg : Pg} (hF : Free pg) {r c x : Nat} (h : Brd r c) (hx : x < 2 ^ (r * c)) (H : Heap) : callRun pg (den pg) (.pu []) [.fn 67 [] [], .i .i64 (r : Int), .i .i64 (c : Int), .i .i64 (x : Int)] H = some (.i .i64 (around r c x : Int), H) := PFn.at (fn67 hF h hx) (fun H => sa_I (sa_I (sa_I sa_0))) H

theorem lt63 {r c : Nat} (h : Brd r c) : 2 ^ (r * c) ≤ 137438953472 := by
  have hn := h.n36
  have := Nat.pow_le_pow_right (n := 2) (by decide) (show r * c ≤ 37 by omega)
  omega

theorem fn40 {pg : Pg} (hF : Free pg) {r c x : Nat} (h : Brd r c) (hx : x < 2 ^ (r * c)) : PFn pg 40 [.i .i64 (r : Int), .i .i64 (c : Int), .i .i64 (x : Int)] (.b (quietB r c x)) := by
  have h63 := lt63 h
  have har := around_lt h hx
  have c67 := call67 (pg := pg) hF h hx []
  have an := and_ii (m := around r c x) (k := x) (by omega) (by omega)
  have he : ((((around r c x &&& x : Nat) : Int) == 0) : Bool) = quietB r c x := by
    unfold quietB
    by_cases h0 : around r c x &&& x = 0
    · rw [dT h0, beqT (by omega)]
    · rw [dF h0, beqF (by omega)]
  refine .inr ⟨hF.S _ _ (by decide), .b (quietB r c x), [], body_of (x := .ret) (e := [(6, .b (quietB r c x))]) (d := d40) (by rw [hF.F]; rfl) rfl ?_ (.inl rfl) rfl, sn_b _ _ _⟩
  rw [← he]
  generalize around r c x &&& x = V at *
  simp (disch := omega) [d40, c40, zipE, go_nil, go_last, go_past, go_pastR, go_blkN, go_blkR, go_blkE, go_skip, go_exit, go_ret, go_scope, go_seq, go_reg, go_regd, go_opdN, go_opd, go_opdG, grdd_b, grdd_u, stpd_some, find_some, go_block, go_cond, cnd_b, go_opsN, go_ops, go_opsG, grd_b, grd_u, stp_some, fin_some, up_some, cont_some, k_call, k_mv, k_pick, k_bin, k_eqB, k_eqA, k_not, k_neg, k_conv, k_alloc, k_boxA, k_boxI, k_boxB, k_boxN, k_boxBs, k_ldR, k_ldA, k_ldI, k_ldB, k_stA, k_stI, k_stB, ldC_some, stC_some, k_mkfn, k_slc, k_slcA, k_ixA, k_ixBs, k_ixSl, k_fadr, k_fld, k_ext, k_len, k_app, k_mn, k_mx, k_nilck, k_build, k_bsl1, k_bsl2, b_add, b_sub, b_mul, b_eql, b_neq, b_lss, b_leq, b_gtr, b_geq, Dn.setLast, Dn.getLast, evalO, mapO, Dn.get, putE, keepE_nil, keepE_cons, kp_some, kp_none, TV.one, TV.isAgg, Dn.part, k_boxR, negb, at0, at1, at2, at3, at4, dT, dF, wrapR_i64, Option.bind_some, Option.map_some, c67, an]

end Go.Proofs.Tryd.Dn

/-
  Knight: tight sets, looked at by the program and by the reference.
-/

namespace Go.Proofs.Tryd.Dn
open Go.Dn

def subB (r c x col : Nat) : Bool := decide (andN x (colM r c col) = 0)
/-- whether a set is tight -/
def tightB (r c x : Nat) : Bool := (subB r c x 0 && fitsB r c (colM r c 0) (colM r c 1) x) || (subB r c x 1 && fitsB r c (colM r c 1) (colM r c 0) x)

theorem sub_one {r c x : Nat} (h : Brd r c) (hx : x < 2 ^ (r * c)) (h0 : x ≠ 0) (h1 : subB r c x 0 = true) : subB r c x 1 = false := by
  have h64 := lv64 h
  unfold subB at *
  rw [decide_eq_true_eq] at h1
  refine dF fun h2 => h0 ?_
  apply Nat.eq_of_testBit_eq
  intro t
  rw [Nat.zero_testBit]
  cases hb : x.testBit t with
  | false => rfl
  | true =>
    have e1 := andN_bit (m := x) (k := colM r c 0) (by omega) t
    have e2 := andN_bit (m := x) (k := colM r c 1) (by omega) t
    rw [h1, Nat.zero_testBit, hb, Bool.true_and] at e1
    rw [h2, Nat.zero_testBit, hb, Bool.true_and] at e2
    unfold colM at e1 e2
    rw [colTo_bit] at e1 e2
    cases ht : decide (t < r * c) with
    | false => rw [ht] at e1; simp at e1
    | true =>
      rw [ht] at e1 e2
      simp at e1 e2
      omega

theorem fitsB_zero (r c w o : Nat) : fitsB r c w o 0 = false := by unfold fitsB; simp

theorem subB_int {r c x col : Nat} : ((((andN x (colM r c col) : Nat) : Int) == 0) : Bool) = subB r c x col := by
  unfold subB
  by_cases h0 : andN x (colM r c col) = 0
  · rw [dT h0, beqT (by omega)]
  · rw [dF h0, beqF (by omega)]

/-- one colour looked at, in the reference -/
theorem l37_round {pg : Pg} (hF : Free pg) {r c x col : Nat} (h : Brd r c) (hx : x < 2 ^ (r * c)) (hc : col < 2) {H : Heap} :
    den pg l37_1 [(0, .i .i64 (r : Int)), (1, .i .i64 (c : Int)), (2, .i .i64 (x : Int)), (7, .i .i64 (col : Int))] H =
      if (subB r c x col && fitsB r c (colM r c col) (colM r c (1 - col)) x) = true then some ⟨.ret, [(6, .b true)], H⟩ else den pg l37_1 [(0, .i .i64 (r : Int)), (1, .i .i64 (c : Int)), (2, .i .i64 (x : Int)), (7, .i .i64 ((col : Int) + 1))] H := by
  have h63 := lt63 h
  have h64 := lv64 h
  have cA := call41 (pg := pg) hF (col := col) h H
  have cB := call41 (pg := pg) hF (col := 1 - col) h H
  have w1c : wrapR .i64 (1 - (col : Int)) = .i .i64 ((1 - col : Nat) : Int) := by rw [show 1 - (col : Int) = ((1 - col : Nat) : Int) by omega]; exact wrapR_i64 (by omega)
  have hwl := colM_lt r c col
  have hol := colM_lt r c (1 - col)
  have har := around_lt h hx
  have c67 := call67 (pg := pg) hF h hx H
  have s1 := call48 (pg := pg) hF (x := around r c x) (by omega) H
  have s2 := call48 (pg := pg) hF (x := x) (by omega) H
  have s3 := call48 (pg := pg) hF (x := colM r c (1 - col)) (by omega) H
  have s4 := call48 (pg := pg) hF (x := colM r c col) (by omega) H
  have an := andN_ii (m := x) (k := colM r c col) (by omega)
  have hsub := subB_int (r := r) (c := c) (x := x) (col := col)
  generalize andN x (colM r c col) = AN at *
  unfold fitsB
  have e2 : x = colM r c col → pop 64 x = pop 64 (colM r c col) := fun e => by rw [e]
  generalize colM r c (1 - col) = others at *
  generalize colM r c col = whole at *
  generalize around r c x = ar at *
  generalize pop 64 ar = pa at *
  generalize hps : pop 64 x = ps at *
  generalize pop 64 others = po at *
  generalize hpw : pop 64 whole = pw at *
  generalize subB r c x col = sb at *
  by_cases h0 : x = 0
  · subst h0
    rw [l37_1, den_loop]
    simp (disch := omega) [l37_1, b37_0, go_nil, go_last, go_past, go_pastR, go_blkN, go_blkR, go_blkE, go_skip, go_exit, go_ret, go_scope, go_seq, go_reg, go_regd, go_opdN, go_opd, go_opdG, grdd_b, grdd_u, stpd_some, find_some, go_block, go_cond, cnd_b, go_opsN, go_ops, go_opsG, grd_b, grd_u, stp_some, fin_some, up_some, cont_some, k_call, k_mv, k_pick, k_bin, k_eqB, k_eqA, k_not, k_neg, k_conv, k_alloc, k_boxA, k_boxI, k_boxB, k_boxN, k_boxBs, k_ldR, k_ldA, k_ldI, k_ldB, k_stA, k_stI, k_stB, ldC_some, stC_some, k_mkfn, k_slc, k_slcA, k_ixA, k_ixBs, k_ixSl, k_fadr, k_fld, k_ext, k_len, k_app, k_mn, k_mx, k_nilck, k_build, k_bsl1, k_bsl2, b_add, b_sub, b_mul, b_eql, b_neq, b_lss, b_leq, b_gtr, b_geq, Dn.setLast, Dn.getLast, evalO, mapO, Dn.get, putE, keepE_nil, keepE_cons, kp_some, kp_none, TV.one, TV.isAgg, Dn.part, k_boxR, negb, at0, at1, at2, at3, at4, dT, dF, wrapR_i64, Option.bind_some, Option.map_some, cA, cB, w1c, bneF]
  · have n0 : (((x : Int) != 0) = true) := bneT (by omega)
    cases sb with
    | false =>
      rw [l37_1, den_loop]
      simp (disch := omega) [l37_1, b37_0, go_nil, go_last, go_past, go_pastR, go_blkN, go_blkR, go_blkE, go_skip, go_exit, go_ret, go_scope, go_seq, go_reg, go_regd, go_opdN, go_opd, go_opdG, grdd_b, grdd_u, stpd_some, find_some, go_block, go_cond, cnd_b, go_opsN, go_ops, go_opsG, grd_b, grd_u, stp_some, fin_some, up_some, cont_some, k_call, k_mv, k_pick, k_bin, k_eqB, k_eqA, k_not, k_neg, k_conv, k_alloc, k_boxA, k_boxI, k_boxB, k_boxN, k_boxBs, k_ldR, k_ldA, k_ldI, k_ldB, k_stA, k_stI, k_stB, ldC_some, stC_some, k_mkfn, k_slc, k_slcA, k_ixA, k_ixBs, k_ixSl, k_fadr, k_fld, k_ext, k_len, k_app, k_mn, k_mx, k_nilck, k_build, k_bsl1, k_bsl2, b_add, b_sub, b_mul, b_eql, b_neq, b_lss, b_leq, b_gtr, b_geq, Dn.setLast, Dn.getLast, evalO, mapO, Dn.get, putE, keepE_nil, keepE_cons, kp_some, kp_none, TV.one, TV.isAgg, Dn.part, k_boxR, negb, at0, at1, at2, at3, at4, dT, dF, wrapR_i64, Option.bind_some, Option.map_some, cA, cB, w1c, n0, an, hsub]
    | true =>
      by_cases h1 : pa ≤ ps
      · by_cases h2 : x = whole
        · have e3 := e2 h2
          subst h2
          have n1 : (((x : Int) != (x : Int)) = false) := by simp
          subst e3
          by_cases h3 : po < ps
          · rw [l37_1, den_loop]
            simp (disch := omega) [l37_1, b37_0, go_nil, go_last, go_past, go_pastR, go_blkN, go_blkR, go_blkE, go_skip, go_exit, go_ret, go_scope, go_seq, go_reg, go_regd, go_opdN, go_opd, go_opdG, grdd_b, grdd_u, stpd_some, find_some, go_block, go_cond, cnd_b, go_opsN, go_ops, go_opsG, grd_b, grd_u, stp_some, fin_some, up_some, cont_some, k_call, k_mv, k_pick, k_bin, k_eqB, k_eqA, k_not, k_neg, k_conv, k_alloc, k_boxA, k_boxI, k_boxB, k_boxN, k_boxBs, k_ldR, k_ldA, k_ldI, k_ldB, k_stA, k_stI, k_stB, ldC_some, stC_some, k_mkfn, k_slc, k_slcA, k_ixA, k_ixBs, k_ixSl, k_fadr, k_fld, k_ext, k_len, k_app, k_mn, k_mx, k_nilck, k_build, k_bsl1, k_bsl2, b_add, b_sub, b_mul, b_eql, b_neq, b_lss, b_leq, b_gtr, b_geq, Dn.setLast, Dn.getLast, evalO, mapO, Dn.get, putE, keepE_nil, keepE_cons, kp_some, kp_none, TV.one, TV.isAgg, Dn.part, k_boxR, negb, at0, at1, at2, at3, at4, dT, dF, wrapR_i64, Option.bind_some, Option.map_some, cA, cB, w1c, n0, an, hsub, c67, s1, s2, s3, s4, n1, h0, h1, h3]
          · rw [l37_1, den_loop]
            simp (disch := omega) [l37_1, b37_0, go_nil, go_last, go_past, go_pastR, go_blkN, go_blkR, go_blkE, go_skip, go_exit, go_ret, go_scope, go_seq, go_reg, go_regd, go_opdN, go_opd, go_opdG, grdd_b, grdd_u, stpd_some, find_some, go_block, go_cond, cnd_b, go_opsN, go_ops, go_opsG, grd_b, grd_u, stp_some, fin_some, up_some, cont_some, k_call, k_mv, k_pick, k_bin, k_eqB, k_eqA, k_not, k_neg, k_conv, k_alloc, k_boxA, k_boxI, k_boxB, k_boxN, k_boxBs, k_ldR, k_ldA, k_ldI, k_ldB, k_stA, k_stI, k_stB, ldC_some, stC_some, k_mkfn, k_slc, k_slcA, k_ixA, k_ixBs, k_ixSl, k_fadr, k_fld, k_ext, k_len, k_app, k_mn, k_mx, k_nilck, k_build, k_bsl1, k_bsl2, b_add, b_sub, b_mul, b_eql, b_neq, b_lss, b_leq, b_gtr, b_geq, Dn.setLast, Dn.getLast, evalO, mapO, Dn.get, putE, keepE_nil, keepE_cons, kp_some, kp_none, TV.one, TV.isAgg, Dn.part, k_boxR, negb, at0, at1, at2, at3, at4, dT, dF, wrapR_i64, Option.bind_some, Option.map_some, cA, cB, w1c, n0, an, hsub, c67, s1, s2, s3, s4, n1, h0, h1, h3]
        · have n1 : (((x : Int) != (whole : Int)) = true) := bneT (by omega)
          rw [l37_1, den_loop]
          simp (disch := omega) [l37_1, b37_0, go_nil, go_last, go_past, go_pastR, go_blkN, go_blkR, go_blkE, go_skip, go_exit, go_ret, go_scope, go_seq, go_reg, go_regd, go_opdN, go_opd, go_opdG, grdd_b, grdd_u, stpd_some, find_some, go_block, go_cond, cnd_b, go_opsN, go_ops, go_opsG, grd_b, grd_u, stp_some, fin_some, up_some, cont_some, k_call, k_mv, k_pick, k_bin, k_eqB, k_eqA, k_not, k_neg, k_conv, k_alloc, k_boxA, k_boxI, k_boxB, k_boxN, k_boxBs, k_ldR, k_ldA, k_ldI, k_ldB, k_stA, k_stI, k_stB, ldC_some, stC_some, k_mkfn, k_slc, k_slcA, k_ixA, k_ixBs, k_ixSl, k_fadr, k_fld, k_ext, k_len, k_app, k_mn, k_mx, k_nilck, k_build, k_bsl1, k_bsl2, b_add, b_sub, b_mul, b_eql, b_neq, b_lss, b_leq, b_gtr, b_geq, Dn.setLast, Dn.getLast, evalO, mapO, Dn.get, putE, keepE_nil, keepE_cons, kp_some, kp_none, TV.one, TV.isAgg, Dn.part, k_boxR, negb, at0, at1, at2, at3, at4, dT, dF, wrapR_i64, Option.bind_some, Option.map_some, cA, cB, w1c, n0, an, hsub, c67, s1, s2, n1, h0, h1, h2]
      · rw [l37_1, den_loop]
        simp (disch := omega) [l37_1, b37_0, go_nil, go_last, go_past, go_pastR, go_blkN, go_blkR, go_blkE, go_skip, go_exit, go_ret, go_scope, go_seq, go_reg, go_regd, go_opdN, go_opd, go_opdG, grdd_b, grdd_u, stpd_some, find_some, go_block, go_cond, cnd_b, go_opsN, go_ops, go_opsG, grd_b, grd_u, stp_some, fin_some, up_some, cont_some, k_call, k_mv, k_pick, k_bin, k_eqB, k_eqA, k_not, k_neg, k_conv, k_alloc, k_boxA, k_boxI, k_boxB, k_boxN, k_boxBs, k_ldR, k_ldA, k_ldI, k_ldB, k_stA, k_stI, k_stB, ldC_some, stC_some, k_mkfn, k_slc, k_slcA, k_ixA, k_ixBs, k_ixSl, k_fadr, k_fld, k_ext, k_len, k_app, k_mn, k_mx, k_nilck, k_build, k_bsl1, k_bsl2, b_add, b_sub, b_mul, b_eql, b_neq, b_lss, b_leq, b_gtr, b_geq, Dn.setLast, Dn.getLast, evalO, mapO, Dn.get, putE, keepE_nil, keepE_cons, kp_some, kp_none, TV.one, TV.isAgg, Dn.part, k_boxR, negb, at0, at1, at2, at3, at4, dT, dF, wrapR_i64, Option.bind_some, Option.map_some, cA, cB, w1c, n0, an, hsub, c67, s1, s2, h0, h1]

theorem fn37 {pg : Pg} (hF : Free pg) {r c x : Nat} (h : Brd r c) (hx : x < 2 ^ (r * c)) : PFn pg 37 [.i .i64 (r : Int), .i .i64 (c : Int), .i .i64 (x : Int)] (.b (tightB r c x)) := by
  have r0 := l37_round (pg := pg) hF (col := 0) h hx (by omega) (H := [])
  have r1 := l37_round (pg := pg) hF (col := 1) h hx (by omega) (H := [])
  have r2 : den pg l37_1 [(0, .i .i64 (r : Int)), (1, .i .i64 (c : Int)), (2, .i .i64 (x : Int)), (7, .i .i64 (1 + 1))] [] = some ⟨.exit 0, [(0, .i .i64 (r : Int)), (1, .i .i64 (c : Int)), (2, .i .i64 (x : Int)), (7, .i .i64 2), (11, .b false)], []⟩ := by
    rw [l37_1, den_loop]
    simp (disch := omega) [b37_0, go_nil, go_last, go_past, go_pastR, go_blkN, go_blkR, go_blkE, go_skip, go_exit, go_ret, go_scope, go_seq, go_reg, go_regd, go_opdN, go_opd, go_opdG, grdd_b, grdd_u, stpd_some, find_some, go_block, go_cond, cnd_b, go_opsN, go_ops, go_opsG, grd_b, grd_u, stp_some, fin_some, up_some, cont_some, k_call, k_mv, k_pick, k_bin, k_eqB, k_eqA, k_not, k_neg, k_conv, k_alloc, k_boxA, k_boxI, k_boxB, k_boxN, k_boxBs, k_ldR, k_ldA, k_ldI, k_ldB, k_stA, k_stI, k_stB, ldC_some, stC_some, k_mkfn, k_slc, k_slcA, k_ixA, k_ixBs, k_ixSl, k_fadr, k_fld, k_ext, k_len, k_app, k_mn, k_mx, k_nilck, k_build, k_bsl1, k_bsl2, b_add, b_sub, b_mul, b_eql, b_neq, b_lss, b_leq, b_gtr, b_geq, Dn.setLast, Dn.getLast, evalO, mapO, Dn.get, putE, keepE_nil, keepE_cons, kp_some, kp_none, TV.one, TV.isAgg, Dn.part, k_boxR, negb, at0, at1, at2, at3, at4, dT, dF, wrapR_i64, Option.bind_some, Option.map_some]
  simp only [Int.natCast_zero, Int.zero_add, Int.natCast_one, Nat.sub_zero, Nat.sub_self] at r0 r1
  rw [r2] at r1
  rw [r1] at r0
  have ht : tightB r c x = ((subB r c x 0 && fitsB r c (colM r c 0) (colM r c 1) x) || (subB r c x 1 && fitsB r c (colM r c 1) (colM r c 0) x)) := rfl
  refine .inr ⟨hF.S _ _ (by decide), .b (tightB r c x), [], body_of (x := .ret) (e := [(6, .b (tightB r c x))]) (d := d37) (by rw [hF.F]; rfl) rfl ?_ (.inl rfl) rfl, sn_b _ _ _⟩
  rw [ht]
  generalize (subB r c x 0 && fitsB r c (colM r c 0) (colM r c 1) x) = A at *
  generalize (subB r c x 1 && fitsB r c (colM r c 1) (colM r c 0) x) = B at *
  cases A <;> cases B <;> simp (disch := omega) [d37, c37, zipE, go_nil, go_last, go_past, go_pastR, go_blkN, go_blkR, go_blkE, go_skip, go_exit, go_ret, go_scope, go_seq, go_reg, go_regd, go_opdN, go_opd, go_opdG, grdd_b, grdd_u, stpd_some, find_some, go_block, go_cond, cnd_b, go_opsN, go_ops, go_opsG, grd_b, grd_u, stp_some, fin_some, up_some, cont_some, k_call, k_mv, k_pick, k_bin, k_eqB, k_eqA, k_not, k_neg, k_conv, k_alloc, k_boxA, k_boxI, k_boxB, k_boxN, k_boxBs, k_ldR, k_ldA, k_ldI, k_ldB, k_stA, k_stI, k_stB, ldC_some, stC_some, k_mkfn, k_slc, k_slcA, k_ixA, k_ixBs, k_ixSl, k_fadr, k_fld, k_ext, k_len, k_app, k_mn, k_mx, k_nilck, k_build, k_bsl1, k_bsl2, b_add, b_sub, b_mul, b_eql, b_neq, b_lss, b_leq, b_gtr, b_geq, Dn.setLast, Dn.getLast, evalO, mapO, Dn.get, putE, keepE_nil, keepE_cons, kp_some, kp_none, TV.one, TV.isAgg, Dn.part, k_boxR, negb, at0, at1, at2, at3, at4, dT, dF, wrapR_i64, Option.bind_some, Option.map_some, go_denK (c := l37_1) rfl, r0]

/-- one colour looked at, in the program -/
theorem l38_round {pg : Pg} (hF : Free pg) {r c x col : Nat} {BV : TV} (h : Brd r c) (hx : x < 2 ^ (r * c)) (hc : col < 2) {H : Heap} (hB : Bv r c H BV) :
    den pg l38_1 [(8, BV), (10, .i .u64 (x : Int)), (26, .i .i64 (col : Int))] H =
      if (decide (x ≠ 0) && subB r c x col) = true then some ⟨.ret, [(6, .b (fitsB r c (colM r c col) (colM r c (1 - col)) x)), (7, .i .i64 0)], H⟩ else den pg l38_1 [(8, BV), (10, .i .u64 (x : Int)), (26, .i .i64 ((col : Int) + 1))] H := by
  have h64 := lv64 h
  have cA := hB.call69 (pg := pg) hF (col := col) h
  have cB := hB.call69 (pg := pg) hF (col := 1 - col) h
  have w1c : wrapR .i64 (1 - (col : Int)) = .i .i64 ((1 - col : Nat) : Int) := by rw [show 1 - (col : Int) = ((1 - col : Nat) : Int) by omega]; exact wrapR_i64 (by omega)
  have hwl := colM_lt r c col
  have hol := colM_lt r c (1 - col)
  have har := around_lt h hx
  have c71 := hB.call71 (pg := pg) hF h hx
  have s1 := call70 (pg := pg) hF (x := around r c x) (by omega) H
  have s2 := call70 (pg := pg) hF (x := x) (by omega) H
  have s3 := call70 (pg := pg) hF (x := colM r c (1 - col)) (by omega) H
  have s4 := call70 (pg := pg) hF (x := colM r c col) (by omega) H
  have an := andN_uu (m := x) (k := colM r c col) (by omega)
  have hsub := subB_int (r := r) (c := c) (x := x) (col := col)
  generalize andN x (colM r c col) = AN at *
  unfold fitsB
  have e2 : x = colM r c col → pop 64 x = pop 64 (colM r c col) := fun e => by rw [e]
  generalize colM r c (1 - col) = others at *
  generalize colM r c col = whole at *
  generalize around r c x = ar at *
  generalize pop 64 ar = pa at *
  generalize hps : pop 64 x = ps at *
  generalize pop 64 others = po at *
  generalize hpw : pop 64 whole = pw at *
  generalize subB r c x col = sb at *
  by_cases h0 : x = 0
  · subst h0
    rw [l38_1, den_loop]
    simp (disch := omega) [l38_1, b38_0, go_nil, go_last, go_past, go_pastR, go_blkN, go_blkR, go_blkE, go_skip, go_exit, go_ret, go_scope, go_seq, go_reg, go_regd, go_opdN, go_opd, go_opdG, grdd_b, grdd_u, stpd_some, find_some, go_block, go_cond, cnd_b, go_opsN, go_ops, go_opsG, grd_b, grd_u, stp_some, fin_some, up_some, cont_some, k_call, k_mv, k_pick, k_bin, k_eqB, k_eqA, k_not, k_neg, k_conv, k_alloc, k_boxA, k_boxI, k_boxB, k_boxN, k_boxBs, k_ldR, k_ldA, k_ldI, k_ldB, k_stA, k_stI, k_stB, ldC_some, stC_some, k_mkfn, k_slc, k_slcA, k_ixA, k_ixBs, k_ixSl, k_fadr, k_fld, k_ext, k_len, k_app, k_mn, k_mx, k_nilck, k_build, k_bsl1, k_bsl2, b_add, b_sub, b_mul, b_eql, b_neq, b_lss, b_leq, b_gtr, b_geq, Dn.setLast, Dn.getLast, evalO, mapO, Dn.get, putE, keepE_nil, keepE_cons, kp_some, kp_none, TV.one, TV.isAgg, Dn.part, k_boxR, negb, at0, at1, at2, at3, at4, dT, dF, wrapR_i64, Option.bind_some, Option.map_some, cA, cB, w1c, beqT]
  · have n0 : (((x : Int) == 0) = false) := beqF (by omega)
    cases sb with
    | false =>
      have hs2 : (((AN : Int) != 0) = true) := by rw [bne, hsub]; rfl
      rw [l38_1, den_loop]
      simp (disch := omega) [l38_1, b38_0, go_nil, go_last, go_past, go_pastR, go_blkN, go_blkR, go_blkE, go_skip, go_exit, go_ret, go_scope, go_seq, go_reg, go_regd, go_opdN, go_opd, go_opdG, grdd_b, grdd_u, stpd_some, find_some, go_block, go_cond, cnd_b, go_opsN, go_ops, go_opsG, grd_b, grd_u, stp_some, fin_some, up_some, cont_some, k_call, k_mv, k_pick, k_bin, k_eqB, k_eqA, k_not, k_neg, k_conv, k_alloc, k_boxA, k_boxI, k_boxB, k_boxN, k_boxBs, k_ldR, k_ldA, k_ldI, k_ldB, k_stA, k_stI, k_stB, ldC_some, stC_some, k_mkfn, k_slc, k_slcA, k_ixA, k_ixBs, k_ixSl, k_fadr, k_fld, k_ext, k_len, k_app, k_mn, k_mx, k_nilck, k_build, k_bsl1, k_bsl2, b_add, b_sub, b_mul, b_eql, b_neq, b_lss, b_leq, b_gtr, b_geq, Dn.setLast, Dn.getLast, evalO, mapO, Dn.get, putE, keepE_nil, keepE_cons, kp_some, kp_none, TV.one, TV.isAgg, Dn.part, k_boxR, negb, at0, at1, at2, at3, at4, dT, dF, wrapR_i64, Option.bind_some, Option.map_some, cA, cB, w1c, n0, an, hs2, h0]
    | true =>
      have hs2 : (((AN : Int) != 0) = false) := by rw [bne, hsub]; rfl
      by_cases h1 : pa ≤ ps
      · by_cases h2 : x = whole
        · have e3 := e2 h2
          subst h2
          have n1 : (((x : Int) != (x : Int)) = false) := by simp
          subst e3
          by_cases h3 : po < ps
          · rw [l38_1, den_loop]
            simp (disch := omega) [l38_1, b38_0, go_nil, go_last, go_past, go_pastR, go_blkN, go_blkR, go_blkE, go_skip, go_exit, go_ret, go_scope, go_seq, go_reg, go_regd, go_opdN, go_opd, go_opdG, grdd_b, grdd_u, stpd_some, find_some, go_block, go_cond, cnd_b, go_opsN, go_ops, go_opsG, grd_b, grd_u, stp_some, fin_some, up_some, cont_some, k_call, k_mv, k_pick, k_bin, k_eqB, k_eqA, k_not, k_neg, k_conv, k_alloc, k_boxA, k_boxI, k_boxB, k_boxN, k_boxBs, k_ldR, k_ldA, k_ldI, k_ldB, k_stA, k_stI, k_stB, ldC_some, stC_some, k_mkfn, k_slc, k_slcA, k_ixA, k_ixBs, k_ixSl, k_fadr, k_fld, k_ext, k_len, k_app, k_mn, k_mx, k_nilck, k_build, k_bsl1, k_bsl2, b_add, b_sub, b_mul, b_eql, b_neq, b_lss, b_leq, b_gtr, b_geq, Dn.setLast, Dn.getLast, evalO, mapO, Dn.get, putE, keepE_nil, keepE_cons, kp_some, kp_none, TV.one, TV.isAgg, Dn.part, k_boxR, negb, at0, at1, at2, at3, at4, dT, dF, wrapR_i64, Option.bind_some, Option.map_some, cA, cB, w1c, n0, an, hs2, c71, s1, s2, s3, s4, n1, h0, h1, h3]
          · rw [l38_1, den_loop]
            simp (disch := omega) [l38_1, b38_0, go_nil, go_last, go_past, go_pastR, go_blkN, go_blkR, go_blkE, go_skip, go_exit, go_ret, go_scope, go_seq, go_reg, go_regd, go_opdN, go_opd, go_opdG, grdd_b, grdd_u, stpd_some, find_some, go_block, go_cond, cnd_b, go_opsN, go_ops, go_opsG, grd_b, grd_u, stp_some, fin_some, up_some, cont_some, k_call, k_mv, k_pick, k_bin, k_eqB, k_eqA, k_not, k_neg, k_conv, k_alloc, k_boxA, k_boxI, k_boxB, k_boxN, k_boxBs, k_ldR, k_ldA, k_ldI, k_ldB, k_stA, k_stI, k_stB, ldC_some, stC_some, k_mkfn, k_slc, k_slcA, k_ixA, k_ixBs, k_ixSl, k_fadr, k_fld, k_ext, k_len, k_app, k_mn, k_mx, k_nilck, k_build, k_bsl1, k_bsl2, b_add, b_sub, b_mul, b_eql, b_neq, b_lss, b_leq, b_gtr, b_geq, Dn.setLast, Dn.getLast, evalO, mapO, Dn.get, putE, keepE_nil, keepE_cons, kp_some, kp_none, TV.one, TV.isAgg, Dn.part, k_boxR, negb, at0, at1, at2, at3, at4, dT, dF, wrapR_i64, Option.bind_some, Option.map_some, cA, cB, w1c, n0, an, hs2, c71, s1, s2, s3, s4, n1, h0, h1, h3]
        · have n1 : (((x : Int) != (whole : Int)) = true) := bneT (by omega)
          rw [l38_1, den_loop]
          simp (disch := omega) [l38_1, b38_0, go_nil, go_last, go_past, go_pastR, go_blkN, go_blkR, go_blkE, go_skip, go_exit, go_ret, go_scope, go_seq, go_reg, go_regd, go_opdN, go_opd, go_opdG, grdd_b, grdd_u, stpd_some, find_some, go_block, go_cond, cnd_b, go_opsN, go_ops, go_opsG, grd_b, grd_u, stp_some, fin_some, up_some, cont_some, k_call, k_mv, k_pick, k_bin, k_eqB, k_eqA, k_not, k_neg, k_conv, k_alloc, k_boxA, k_boxI, k_boxB, k_boxN, k_boxBs, k_ldR, k_ldA, k_ldI, k_ldB, k_stA, k_stI, k_stB, ldC_some, stC_some, k_mkfn, k_slc, k_slcA, k_ixA, k_ixBs, k_ixSl, k_fadr, k_fld, k_ext, k_len, k_app, k_mn, k_mx, k_nilck, k_build, k_bsl1, k_bsl2, b_add, b_sub, b_mul, b_eql, b_neq, b_lss, b_leq, b_gtr, b_geq, Dn.setLast, Dn.getLast, evalO, mapO, Dn.get, putE, keepE_nil, keepE_cons, kp_some, kp_none, TV.one, TV.isAgg, Dn.part, k_boxR, negb, at0, at1, at2, at3, at4, dT, dF, wrapR_i64, Option.bind_some, Option.map_some, cA, cB, w1c, n0, an, hs2, c71, s1, s2, n1, h0, h1, h2]
      · rw [l38_1, den_loop]
        simp (disch := omega) [l38_1, b38_0, go_nil, go_last, go_past, go_pastR, go_blkN, go_blkR, go_blkE, go_skip, go_exit, go_ret, go_scope, go_seq, go_reg, go_regd, go_opdN, go_opd, go_opdG, grdd_b, grdd_u, stpd_some, find_some, go_block, go_cond, cnd_b, go_opsN, go_ops, go_opsG, grd_b, grd_u, stp_some, fin_some, up_some, cont_some, k_call, k_mv, k_pick, k_bin, k_eqB, k_eqA, k_not, k_neg, k_conv, k_alloc, k_boxA, k_boxI, k_boxB, k_boxN, k_boxBs, k_ldR, k_ldA, k_ldI, k_ldB, k_stA, k_stI, k_stB, ldC_some, stC_some, k_mkfn, k_slc, k_slcA, k_ixA, k_ixBs, k_ixSl, k_fadr, k_fld, k_ext, k_len, k_app, k_mn, k_mx, k_nilck, k_build, k_bsl1, k_bsl2, b_add, b_sub, b_mul, b_eql, b_neq, b_lss, b_leq, b_gtr, b_geq, Dn.setLast, Dn.getLast, evalO, mapO, Dn.get, putE, keepE_nil, keepE_cons, kp_some, kp_none, TV.one, TV.isAgg, Dn.part, k_boxR, negb, at0, at1, at2, at3, at4, dT, dF, wrapR_i64, Option.bind_some, Option.map_some, cA, cB, w1c, n0, an, hs2, c71, s1, s2, h0, h1]

theorem fn38 {pg : Pg} (hF : Free pg) {r c x : Nat} (h : Brd r c) (hx : x < 2 ^ (r * c)) : PFn pg 38 [.i .i64 (r : Int), .i .i64 (c : Int), .i .i64 (x : Int)] (.tup [.b (tightB r c x), .i .i64 0]) := by
  have h64 := lv64 h
  obtain ⟨H1, h1, h2, h3, h4⟩ := body68 (pg := pg) hF h hx []
  simp only [List.length_nil] at h1 h2
  have hB := Bv.ref h2
  have wx := wrap_u (m := x) (by omega)
  have r0 := l38_round (pg := pg) hF (col := 0) h hx (by omega) hB
  have r1 := l38_round (pg := pg) hF (col := 1) h hx (by omega) hB
  have r2 : den pg l38_1 [(8, .ref 0 0), (10, .i .u64 (x : Int)), (26, .i .i64 (1 + 1))] H1 = some ⟨.exit 0, [(8, .ref 0 0), (10, .i .u64 (x : Int)), (26, .i .i64 2), (27, .b false)], H1⟩ := by
    rw [l38_1, den_loop]
    simp (disch := omega) [b38_0, go_nil, go_last, go_past, go_pastR, go_blkN, go_blkR, go_blkE, go_skip, go_exit, go_ret, go_scope, go_seq, go_reg, go_regd, go_opdN, go_opd, go_opdG, grdd_b, grdd_u, stpd_some, find_some, go_block, go_cond, cnd_b, go_opsN, go_ops, go_opsG, grd_b, grd_u, stp_some, fin_some, up_some, cont_some, k_call, k_mv, k_pick, k_bin, k_eqB, k_eqA, k_not, k_neg, k_conv, k_alloc, k_boxA, k_boxI, k_boxB, k_boxN, k_boxBs, k_ldR, k_ldA, k_ldI, k_ldB, k_stA, k_stI, k_stB, ldC_some, stC_some, k_mkfn, k_slc, k_slcA, k_ixA, k_ixBs, k_ixSl, k_fadr, k_fld, k_ext, k_len, k_app, k_mn, k_mx, k_nilck, k_build, k_bsl1, k_bsl2, b_add, b_sub, b_mul, b_eql, b_neq, b_lss, b_leq, b_gtr, b_geq, Dn.setLast, Dn.getLast, evalO, mapO, Dn.get, putE, keepE_nil, keepE_cons, kp_some, kp_none, TV.one, TV.isAgg, Dn.part, k_boxR, negb, at0, at1, at2, at3, at4, dT, dF, wrapR_i64, Option.bind_some, Option.map_some]
  simp only [Int.natCast_zero, Int.zero_add, Int.natCast_one, Nat.sub_zero, Nat.sub_self] at r0 r1
  rw [r2] at r1
  rw [r1] at r0
  have ht : tightB r c x = ((subB r c x 0 && fitsB r c (colM r c 0) (colM r c 1) x) || (subB r c x 1 && fitsB r c (colM r c 1) (colM r c 0) x)) := rfl
  refine .of2 (x := .ret) (e := [(6, .b (tightB r c x)), (7, .i .i64 0)]) (H' := H1) (hF.S _ _ (by decide)) (d := d38) (by rw [hF.F]; rfl) rfl ?_ (.inl rfl) rfl (by simp) (by simp [sn_i, sn_b, sn_nil, sn8_i, sn8_b, sn8_nil, sn7_i, sn7_b, sn_sl, sn8_sl, slB_some, sn_tup, sn_agg, sn8_agg, mapO, elems])
  rw [ht]
  by_cases hx0 : x = 0
  · subst hx0
    rw [fitsB_zero, fitsB_zero]
    have hd : decide ((0 : Nat) ≠ 0) = false := by simp
    rw [hd] at r0
    simp only [Bool.false_and, Bool.false_eq_true, if_false] at r0
    simp only [Int.natCast_zero] at r0 h1 wx
    simp (disch := omega) [d38, c38, zipE, go_nil, go_last, go_past, go_pastR, go_blkN, go_blkR, go_blkE, go_skip, go_exit, go_ret, go_scope, go_seq, go_reg, go_regd, go_opdN, go_opd, go_opdG, grdd_b, grdd_u, stpd_some, find_some, go_block, go_cond, cnd_b, go_opsN, go_ops, go_opsG, grd_b, grd_u, stp_some, fin_some, up_some, cont_some, k_call, k_mv, k_pick, k_bin, k_eqB, k_eqA, k_not, k_neg, k_conv, k_alloc, k_boxA, k_boxI, k_boxB, k_boxN, k_boxBs, k_ldR, k_ldA, k_ldI, k_ldB, k_stA, k_stI, k_stB, ldC_some, stC_some, k_mkfn, k_slc, k_slcA, k_ixA, k_ixBs, k_ixSl, k_fadr, k_fld, k_ext, k_len, k_app, k_mn, k_mx, k_nilck, k_build, k_bsl1, k_bsl2, b_add, b_sub, b_mul, b_eql, b_neq, b_lss, b_leq, b_gtr, b_geq, Dn.setLast, Dn.getLast, evalO, mapO, Dn.get, putE, keepE_nil, keepE_cons, kp_some, kp_none, TV.one, TV.isAgg, Dn.part, k_boxR, negb, at0, at1, at2, at3, at4, dT, dF, wrapR_i64, Option.bind_some, Option.map_some, sh_fn, h1, wx, go_denK (c := l38_1) rfl, r0]
  · have hd : decide (x ≠ 0) = true := by simp [hx0]
    rw [hd] at r0
    rw [Bool.true_and, Bool.true_and] at r0
    cases hs : subB r c x 0 with
    | true =>
      rw [hs] at r0
      rw [sub_one h hx hx0 hs]
      simp only [if_true] at r0
      generalize fitsB r c (colM r c 0) (colM r c 1) x = F0 at *
      simp (disch := omega) [d38, c38, zipE, go_nil, go_last, go_past, go_pastR, go_blkN, go_blkR, go_blkE, go_skip, go_exit, go_ret, go_scope, go_seq, go_reg, go_regd, go_opdN, go_opd, go_opdG, grdd_b, grdd_u, stpd_some, find_some, go_block, go_cond, cnd_b, go_opsN, go_ops, go_opsG, grd_b, grd_u, stp_some, fin_some, up_some, cont_some, k_call, k_mv, k_pick, k_bin, k_eqB, k_eqA, k_not, k_neg, k_conv, k_alloc, k_boxA, k_boxI, k_boxB, k_boxN, k_boxBs, k_ldR, k_ldA, k_ldI, k_ldB, k_stA, k_stI, k_stB, ldC_some, stC_some, k_mkfn, k_slc, k_slcA, k_ixA, k_ixBs, k_ixSl, k_fadr, k_fld, k_ext, k_len, k_app, k_mn, k_mx, k_nilck, k_build, k_bsl1, k_bsl2, b_add, b_sub, b_mul, b_eql, b_neq, b_lss, b_leq, b_gtr, b_geq, Dn.setLast, Dn.getLast, evalO, mapO, Dn.get, putE, keepE_nil, keepE_cons, kp_some, kp_none, TV.one, TV.isAgg, Dn.part, k_boxR, negb, at0, at1, at2, at3, at4, dT, dF, wrapR_i64, Option.bind_some, Option.map_some, sh_fn, h1, wx, go_denK (c := l38_1) rfl, r0]
    | false =>
      rw [hs] at r0
      simp only [Bool.false_eq_true, if_false] at r0
      generalize fitsB r c (colM r c 0) (colM r c 1) x = F0 at *
      generalize fitsB r c (colM r c 1) (colM r c 0) x = F1 at *
      cases hs1 : subB r c x 1 with
      | true =>
        rw [hs1] at r0
        simp only [if_true] at r0
        simp (disch := omega) [d38, c38, zipE, go_nil, go_last, go_past, go_pastR, go_blkN, go_blkR, go_blkE, go_skip, go_exit, go_ret, go_scope, go_seq, go_reg, go_regd, go_opdN, go_opd, go_opdG, grdd_b, grdd_u, stpd_some, find_some, go_block, go_cond, cnd_b, go_opsN, go_ops, go_opsG, grd_b, grd_u, stp_some, fin_some, up_some, cont_some, k_call, k_mv, k_pick, k_bin, k_eqB, k_eqA, k_not, k_neg, k_conv, k_alloc, k_boxA, k_boxI, k_boxB, k_boxN, k_boxBs, k_ldR, k_ldA, k_ldI, k_ldB, k_stA, k_stI, k_stB, ldC_some, stC_some, k_mkfn, k_slc, k_slcA, k_ixA, k_ixBs, k_ixSl, k_fadr, k_fld, k_ext, k_len, k_app, k_mn, k_mx, k_nilck, k_build, k_bsl1, k_bsl2, b_add, b_sub, b_mul, b_eql, b_neq, b_lss, b_leq, b_gtr, b_geq, Dn.setLast, Dn.getLast, evalO, mapO, Dn.get, putE, keepE_nil, keepE_cons, kp_some, kp_none, TV.one, TV.isAgg, Dn.part, k_boxR, negb, at0, at1, at2, at3, at4, dT, dF, wrapR_i64, Option.bind_some, Option.map_some, sh_fn, h1, wx, go_denK (c := l38_1) rfl, r0]
      | false =>
        rw [hs1] at r0
        simp only [Bool.false_eq_true, if_false] at r0
        simp (disch := omega) [d38, c38, zipE, go_nil, go_last, go_past, go_pastR, go_blkN, go_blkR, go_blkE, go_skip, go_exit, go_ret, go_scope, go_seq, go_reg, go_regd, go_opdN, go_opd, go_opdG, grdd_b, grdd_u, stpd_some, find_some, go_block, go_cond, cnd_b, go_opsN, go_ops, go_opsG, grd_b, grd_u, stp_some, fin_some, up_some, cont_some, k_call, k_mv, k_pick, k_bin, k_eqB, k_eqA, k_not, k_neg, k_conv, k_alloc, k_boxA, k_boxI, k_boxB, k_boxN, k_boxBs, k_ldR, k_ldA, k_ldI, k_ldB, k_stA, k_stI, k_stB, ldC_some, stC_some, k_mkfn, k_slc, k_slcA, k_ixA, k_ixBs, k_ixSl, k_fadr, k_fld, k_ext, k_len, k_app, k_mn, k_mx, k_nilck, k_build, k_bsl1, k_bsl2, b_add, b_sub, b_mul, b_eql, b_neq, b_lss, b_leq, b_gtr, b_geq, Dn.setLast, Dn.getLast, evalO, mapO, Dn.get, putE, keepE_nil, keepE_cons, kp_some, kp_none, TV.one, TV.isAgg, Dn.part, k_boxR, negb, at0, at1, at2, at3, at4, dT, dF, wrapR_i64, Option.bind_some, Option.map_some, sh_fn, h1, wx, go_denK (c := l38_1) rfl, r0]

theorem Bv.call60 {pg : Pg} (hF : Free pg) {r c : Nat} {H : Heap} {BV : TV} (hb : Bv r c H BV) (h : Brd r c) : callRun pg (den pg) (.pu []) [.fn 60 [] [], BV] H = some (tightV (tightS r c), H) := by
  unfold Bv at hb
  exact PFn.call (fn60 hF (bo := true) h) (args := [BV]) (by simp [snapArgs, hb])

theorem tightL_lt {r c : Nat} (h : Brd r c) {M : List Int} (hM : MOk (r * c) M) {w o : Nat} : ∀ (l : List Nat) {v : Nat}, (∀ s, s ∈ l → s < r * c) → tightL r c M w o l = some v → v < 2 ^ (r * c)
  | [], v, _, hv => by cases hv
  | s :: l, v, hl, hv => by
    rw [tightL] at hv
    split at hv
    · cases hv
      exact reachS_lt h hM fun x hx => by rw [List.mem_singleton] at hx; subst hx; exact hl _ (by simp)
    · exact tightL_lt h hM l (fun x hx => hl x (by simp [hx])) hv

theorem tightC_lt {r c : Nat} (h : Brd r c) {M : List Int} (hM : MOk (r * c) M) {col v : Nat} (hv : tightC r c M col = some v) : v < 2 ^ (r * c) := by
  unfold tightC at hv
  split at hv
  · rename_i w hw
    cases hv
    exact tightL_lt h hM _ (fun s hs => mem64_in (colM_lt r c col) hs) hw
  · split at hv
    · cases hv; exact colM_lt r c col
    · cases hv

theorem tightS_lt {r c : Nat} (h : Brd r c) {v : Nat} (hv : tightS r c = some v) : v < 2 ^ (r * c) := by
  unfold tightS at hv
  split at hv
  · rename_i w hw
    cases hv
    exact tightC_lt h (matesOf_ok h) hw
  · exact tightC_lt h (matesOf_ok h) hv

theorem fn35 {pg : Pg} (hF : Free pg) {r c : Nat} (h : Brd r c) : PFn pg 35 [.i .i64 (r : Int), .i .i64 (c : Int)] (.tup [.i .i64 (((tightS r c).getD 0 : Nat) : Int), .b (tightS r c).isSome, .i .i64 0]) := by
  have h63 := lt63 h
  obtain ⟨H1, h1, h2, h3, h4⟩ := body59n (pg := pg) hF h []
  simp only [List.length_nil] at h1 h2
  have c60 := (Bv.ref h2).call60 (pg := pg) hF h
  unfold tightV at c60
  have hlt : (tightS r c).getD 0 < 2 ^ (r * c) := by
    cases ht : tightS r c with
    | none => exact Nat.two_pow_pos _
    | some v => exact tightS_lt h ht
  have wx : wrapR .i64 (((tightS r c).getD 0 : Nat) : Int) = .i .i64 (((tightS r c).getD 0 : Nat) : Int) := wrapR_i64 (by omega)
  generalize (((tightS r c).getD 0 : Nat) : Int) = V at *
  generalize (tightS r c).isSome = B at *
  refine .of2 (x := .ret) (e := [(4, .i .i64 V), (5, .b B), (6, .i .i64 0)]) (H' := H1) (hF.S _ _ (by decide)) (d := d35) (by rw [hF.F]; rfl) rfl ?_ (.inl rfl) rfl (by simp) (by simp [sn_i, sn_b, sn_nil, sn8_i, sn8_b, sn8_nil, sn7_i, sn7_b, sn_sl, sn8_sl, slB_some, sn_tup, sn_agg, sn8_agg, mapO, elems])
  simp [d35, c35, zipE, go_nil, go_last, go_past, go_pastR, go_blkN, go_blkR, go_blkE, go_skip, go_exit, go_ret, go_scope, go_seq, go_reg, go_regd, go_opdN, go_opd, go_opdG, grdd_b, grdd_u, stpd_some, find_some, go_block, go_cond, cnd_b, go_opsN, go_ops, go_opsG, grd_b, grd_u, stp_some, fin_some, up_some, cont_some, k_call, k_mv, k_pick, k_bin, k_eqB, k_eqA, k_not, k_neg, k_conv, k_alloc, k_boxA, k_boxI, k_boxB, k_boxN, k_boxBs, k_ldR, k_ldA, k_ldI, k_ldB, k_stA, k_stI, k_stB, ldC_some, stC_some, k_mkfn, k_slc, k_slcA, k_ixA, k_ixBs, k_ixSl, k_fadr, k_fld, k_ext, k_len, k_app, k_mn, k_mx, k_nilck, k_build, k_bsl1, k_bsl2, b_add, b_sub, b_mul, b_eql, b_neq, b_lss, b_leq, b_gtr, b_geq, Dn.setLast, Dn.getLast, evalO, mapO, Dn.get, putE, keepE, TV.one, TV.isAgg, Dn.part, sh_fn, h1, c60, wx]

end Go.Proofs.Tryd.Dn

