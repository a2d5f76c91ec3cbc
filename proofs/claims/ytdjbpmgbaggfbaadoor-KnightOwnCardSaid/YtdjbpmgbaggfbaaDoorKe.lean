/-
  Knight: the number of walks, in the reference; boards of any numbers.
-/
import Derived.Test.YtdjbpmgbaggfbaaDoorKd
set_option linter.unusedSimpArgs false
set_option linter.unusedVariables false

namespace Go.Proofs.Tryd.Dn
open Go.Dn

theorem fn62 {pg : Pg} (hF : Free pg) {c a b : Nat} (hc : 1 ≤ c) (hc8 : c ≤ 8) (ha : a < 64) (hb : b < 64) : PFn pg 62 [.i .i64 (c : Int), .i .i64 (a : Int), .i .i64 (b : Int)] (.b (near c a b)) := by
  have t1 := tdiv_nat a c
  have t2 := tdiv_nat b c
  have m1 := tmod_nat a c
  have m2 := tmod_nat b c
  have d1 : a / c < 64 := Nat.lt_of_le_of_lt (Nat.div_le_self _ _) ha
  have d2 : b / c < 64 := Nat.lt_of_le_of_lt (Nat.div_le_self _ _) hb
  have d3 : a % c < 64 := Nat.lt_of_le_of_lt (Nat.mod_le _ _) ha
  have d4 : b % c < 64 := Nat.lt_of_le_of_lt (Nat.mod_le _ _) hb
  have c0 : ¬ c = 0 := by omega
  unfold near
  generalize a / c = x at *
  generalize b / c = y at *
  generalize a % c = z at *
  generalize b % c = w at *
  have w1 : wrapR .i64 (x : Int) = .i .i64 (x : Int) := wrapR_i64 (by omega)
  have w2 : wrapR .i64 (y : Int) = .i .i64 (y : Int) := wrapR_i64 (by omega)
  have w3 : wrapR .i64 ((x : Int) - (y : Int)) = .i .i64 ((x : Int) - (y : Int)) := wrapR_i64 (by omega)
  have w4 : wrapR .i64 ((z : Int) - (w : Int)) = .i .i64 ((z : Int) - (w : Int)) := wrapR_i64 (by omega)
  obtain ⟨p, hp⟩ : ∃ p : Int, p = (x : Int) - (y : Int) := ⟨_, rfl⟩
  obtain ⟨q, hq⟩ : ∃ q : Int, q = (z : Int) - (w : Int) := ⟨_, rfl⟩
  have bp : -64 ≤ p ∧ p ≤ 64 := by omega
  have bq : -64 ≤ q ∧ q ≤ 64 := by omega
  have sq : ∀ v : Int, -64 ≤ v ∧ v ≤ 64 → 0 ≤ v * v ∧ v * v ≤ 4096 := fun v hv => by
    have h1 : v * v = v.natAbs * v.natAbs := by rw [Int.natAbs_mul_self']
    have h2 : v.natAbs ≤ 64 := by omega
    have h3 := Nat.mul_le_mul h2 h2
    rw [h1]
    omega
  have sp := sq p bp
  have sq' := sq q bq
  rw [← hp] at w3 ⊢
  rw [← hq] at w4 ⊢
  have w5 : wrapR .i64 (p * p) = .i .i64 (p * p) := wrapR_i64 (by omega)
  have w6 : wrapR .i64 (q * q) = .i .i64 (q * q) := wrapR_i64 (by omega)
  have w7 : wrapR .i64 (p * p + q * q) = .i .i64 (p * p + q * q) := wrapR_i64 (by omega)
  refine .of1 (x := .ret) (e := [(6, .b (p * p + q * q == 5))]) (H' := []) (hF.S _ _ (by decide)) (d := d62) (by rw [hF.F]; rfl) rfl ?_ (.inl rfl) rfl (by simp [sn_i, sn_b, sn_nil, sn8_i, sn8_b, sn8_nil, sn7_i, sn7_b, sn_sl, sn8_sl, slB_some, sn_tup, sn_agg, sn8_agg, mapO, elems])
  simp [d62, c62, zipE, go_nil, go_last, go_past, go_pastR, go_blkN, go_blkR, go_blkE, go_skip, go_exit, go_ret, go_scope, go_seq, go_reg, go_regd, go_opdN, go_opd, go_opdG, grdd_b, grdd_u, stpd_some, find_some, go_block, go_cond, cnd_b, go_opsN, go_ops, go_opsG, grd_b, grd_u, stp_some, fin_some, up_some, cont_some, k_call, k_mv, k_pick, k_bin, k_eqB, k_eqA, k_not, k_neg, k_conv, k_alloc, k_boxA, k_boxI, k_boxB, k_boxN, k_boxBs, k_ldR, k_ldA, k_ldI, k_ldB, k_stA, k_stI, k_stB, ldC_some, stC_some, k_mkfn, k_slc, k_slcA, k_ixA, k_ixBs, k_ixSl, k_fadr, k_fld, k_ext, k_len, k_app, k_mn, k_mx, k_nilck, k_build, k_bsl1, k_bsl2, b_add, b_sub, b_mul, b_eql, b_neq, b_lss, b_leq, b_gtr, b_geq, Dn.setLast, Dn.getLast, evalO, mapO, Dn.get, putE, keepE, TV.one, TV.isAgg, Dn.part, b_quo, b_rem, c0, t1, t2, m1, m2, w1, w2, ← hp, ← hq, w3, w4, w5, w6, w7]

theorem call62 {pg : Pg} (hF : Free pg) {c a b : Nat} (hc : 1 ≤ c) (hc8 : c ≤ 8) (ha : a < 64) (hb : b < 64) (H : Heap) : callRun pg (den pg) (.pu []) [.fn 62 [] [], .i .i64 (c : Int), .i .i64 (a : Int), .i .i64 (b : Int)] H = some (.b (near c a b), H) :=
  PFn.call (fn62 hF hc hc8 ha hb) (args := [.i .i64 (c : Int), .i .i64 (a : Int), .i .i64 (b : Int)]) (by simp [snapArgs, sn_i])

def wl (f : Nat → Nat) (n : Nat) : List Int := (List.range n).map fun t => (f t : Int)
end Go.Proofs.Tryd.Dn

/-
  Knight: the reference's Walks; boards of any numbers.
-/

namespace Go.Proofs.Tryd.Dn
open Go.Dn

theorem rc_facts {r c : Nat} (h : Brd r c) : ((r * c : Nat) : Int) = (r : Int) * c ∧ wrapR .i64 ((r : Int) * (c : Int)) = .i .i64 ((r : Int) * (c : Int)) := by
  have hn := h.n36
  have hcast : ((r * c : Nat) : Int) = (r : Int) * c := by simp
  exact ⟨hcast, wrapR_i64 (by rw [← hcast]; omega)⟩

theorem fn18 {pg : Pg} (hF : Free pg) (x y : Int) : ∃ r c : Nat, Brd r c ∧ PFn pg 18 [.i .i64 x, .i .i64 y] (.tup [.i .i64 (r : Int), .i .i64 (c : Int)]) := by
  have conv : ∀ v : Int, ∃ w m : Nat, wrapR .u64 v = .i .u64 (w : Int) ∧ binI .rem (.i .u64 (w : Int)) (.i .u64 8) = some (.i .u64 (m : Int)) ∧ m < 8 := fun v => by
    obtain ⟨w, hw⟩ : ∃ w : Nat, IntKind.wrap .u64 v = (w : Int) := ⟨(IntKind.wrap .u64 v).toNat, by simp only [IntKind.wrap, IntKind.signed, IntKind.bits, Bool.false_and, Bool.false_eq_true, if_false]; omega⟩
    refine ⟨w, w % 8, by unfold wrapR; rw [hw], ?_, Nat.mod_lt _ (by decide)⟩
    have := tmod_nat w 8
    simp only [Int.cast_ofNat_Int] at this
    rw [b_rem, if_neg (by decide), this]
  obtain ⟨w1, m1, a1, a2, a3⟩ := conv x
  obtain ⟨w2, m2, b1, b2, b3⟩ := conv y
  have c1 : wrapR .i64 (m1 : Int) = .i .i64 (m1 : Int) := wrapR_i64 (by omega)
  have c2 : wrapR .i64 (m2 : Int) = .i .i64 (m2 : Int) := wrapR_i64 (by omega)
  have d1 : wrapR .i64 (1 + (m1 : Int)) = .i .i64 ((m1 + 1 : Nat) : Int) := by rw [show 1 + (m1 : Int) = ((m1 + 1 : Nat) : Int) by omega]; exact wrapR_i64 (by omega)
  have d2 : wrapR .i64 (1 + (m2 : Int)) = .i .i64 ((m2 + 1 : Nat) : Int) := by rw [show 1 + (m2 : Int) = ((m2 + 1 : Nat) : Int) by omega]; exact wrapR_i64 (by omega)
  obtain ⟨r, hr⟩ : ∃ r, r = m1 + 1 := ⟨_, rfl⟩
  obtain ⟨c, hc⟩ : ∃ c, c = m2 + 1 := ⟨_, rfl⟩
  rw [← hr] at d1
  rw [← hc] at d2
  have hr8 : 1 ≤ r ∧ r ≤ 8 := by omega
  have hc8 : 1 ≤ c ∧ c ≤ 8 := by omega
  have hcast : ((r * c : Nat) : Int) = (r : Int) * c := by simp
  have hmul : r * c ≤ 64 := Nat.mul_le_mul hr8.2 hc8.2
  have wn : wrapR .i64 ((r : Int) * (c : Int)) = .i .i64 ((r : Int) * (c : Int)) := wrapR_i64 (by rw [← hcast]; omega)
  have hd : pg.F 18 = some d18 := by rw [hF.F]; rfl
  by_cases q1 : 36 < r * c
  · have q1' : (36 : Int) < (r : Int) * (c : Int) := by rw [← hcast]; omega
    by_cases q2 : c < r
    · have td := tdiv_nat 36 c
      have c0 : ¬ c = 0 := by omega
      have w36 := (fun z hz => wrapR_i64 (by omega) : ∀ z : Nat, z ≤ 36 → wrapR .i64 (z : Int) = .i .i64 (z : Int)) (36 / c) (Nat.div_le_self 36 c)
      have hle : 36 / c * c ≤ 36 := Nat.div_mul_le_self 36 c
      have hge : 1 ≤ 36 / c := (Nat.one_le_div_iff (by omega)).2 (by omega)
      have hle8 : 36 / c ≤ 8 := by
        have h1 : 36 / c < r := Nat.div_lt_of_lt_mul (by rw [Nat.mul_comm]; exact q1)
        omega
      refine ⟨36 / c, c, ⟨hge, hc8.1, hle8, hc8.2, hle⟩, .of2 (x := .ret) (e := [(4, .i .i64 ((36 / c : Nat) : Int)), (5, .i .i64 (c : Int))]) (H' := []) (vs := [.i .i64 ((36 / c : Nat) : Int), .i .i64 (c : Int)]) (hF.S _ _ (by decide)) hd rfl ?_ (.inl rfl) rfl (by simp) (by simp [sn_i, sn_b, sn_nil, sn8_i, sn8_b, sn8_nil, sn7_i, sn7_b, sn_sl, sn8_sl, slB_some, sn_tup, sn_agg, sn8_agg, mapO, elems])⟩
      simp only [Int.cast_ofNat_Int] at td
      generalize 36 / c = z at *
      simp [d18, c18, zipE, go_nil, go_last, go_past, go_pastR, go_blkN, go_blkR, go_blkE, go_skip, go_exit, go_ret, go_scope, go_seq, go_reg, go_regd, go_opdN, go_opd, go_opdG, grdd_b, grdd_u, stpd_some, find_some, go_block, go_cond, cnd_b, go_opsN, go_ops, go_opsG, grd_b, grd_u, stp_some, fin_some, up_some, cont_some, k_call, k_mv, k_pick, k_bin, k_eqB, k_eqA, k_not, k_neg, k_conv, k_alloc, k_boxA, k_boxI, k_boxB, k_boxN, k_boxBs, k_ldR, k_ldA, k_ldI, k_ldB, k_stA, k_stI, k_stB, ldC_some, stC_some, k_mkfn, k_slc, k_slcA, k_ixA, k_ixBs, k_ixSl, k_fadr, k_fld, k_ext, k_len, k_app, k_mn, k_mx, k_nilck, k_build, k_bsl1, k_bsl2, b_add, b_sub, b_mul, b_eql, b_neq, b_lss, b_leq, b_gtr, b_geq, Dn.setLast, Dn.getLast, evalO, mapO, Dn.get, putE, keepE, TV.one, TV.isAgg, Dn.part, b_quo, a1, a2, b1, b2, c1, c2, d1, d2, wn, q1', q2, td, c0, w36]
    · have td := tdiv_nat 36 r
      have r0 : ¬ r = 0 := by omega
      have w36 := (fun z hz => wrapR_i64 (by omega) : ∀ z : Nat, z ≤ 36 → wrapR .i64 (z : Int) = .i .i64 (z : Int)) (36 / r) (Nat.div_le_self 36 r)
      have hle : 36 / r * r ≤ 36 := Nat.div_mul_le_self 36 r
      have hge : 1 ≤ 36 / r := (Nat.one_le_div_iff (by omega)).2 (by omega)
      have hle8 : 36 / r ≤ 8 := by
        have h1 : 36 / r < c := Nat.div_lt_of_lt_mul q1
        omega
      refine ⟨r, 36 / r, ⟨hr8.1, hge, hr8.2, hle8, by rw [Nat.mul_comm]; exact hle⟩, .of2 (x := .ret) (e := [(4, .i .i64 (r : Int)), (5, .i .i64 ((36 / r : Nat) : Int))]) (H' := []) (vs := [.i .i64 (r : Int), .i .i64 ((36 / r : Nat) : Int)]) (hF.S _ _ (by decide)) hd rfl ?_ (.inl rfl) rfl (by simp) (by simp [sn_i, sn_b, sn_nil, sn8_i, sn8_b, sn8_nil, sn7_i, sn7_b, sn_sl, sn8_sl, slB_some, sn_tup, sn_agg, sn8_agg, mapO, elems])⟩
      simp only [Int.cast_ofNat_Int] at td
      generalize 36 / r = z at *
      simp [d18, c18, zipE, go_nil, go_last, go_past, go_pastR, go_blkN, go_blkR, go_blkE, go_skip, go_exit, go_ret, go_scope, go_seq, go_reg, go_regd, go_opdN, go_opd, go_opdG, grdd_b, grdd_u, stpd_some, find_some, go_block, go_cond, cnd_b, go_opsN, go_ops, go_opsG, grd_b, grd_u, stp_some, fin_some, up_some, cont_some, k_call, k_mv, k_pick, k_bin, k_eqB, k_eqA, k_not, k_neg, k_conv, k_alloc, k_boxA, k_boxI, k_boxB, k_boxN, k_boxBs, k_ldR, k_ldA, k_ldI, k_ldB, k_stA, k_stI, k_stB, ldC_some, stC_some, k_mkfn, k_slc, k_slcA, k_ixA, k_ixBs, k_ixSl, k_fadr, k_fld, k_ext, k_len, k_app, k_mn, k_mx, k_nilck, k_build, k_bsl1, k_bsl2, b_add, b_sub, b_mul, b_eql, b_neq, b_lss, b_leq, b_gtr, b_geq, Dn.setLast, Dn.getLast, evalO, mapO, Dn.get, putE, keepE, TV.one, TV.isAgg, Dn.part, b_quo, a1, a2, b1, b2, c1, c2, d1, d2, wn, q1', q2, td, r0, w36]
  · have q1' : ¬ (36 : Int) < (r : Int) * (c : Int) := by rw [← hcast]; omega
    refine ⟨r, c, ⟨hr8.1, hc8.1, hr8.2, hc8.2, by omega⟩, .of2 (x := .ret) (e := [(4, .i .i64 (r : Int)), (5, .i .i64 (c : Int))]) (H' := []) (vs := [.i .i64 (r : Int), .i .i64 (c : Int)]) (hF.S _ _ (by decide)) hd rfl ?_ (.inl rfl) rfl (by simp) (by simp [sn_i, sn_b, sn_nil, sn8_i, sn8_b, sn8_nil, sn7_i, sn7_b, sn_sl, sn8_sl, slB_some, sn_tup, sn_agg, sn8_agg, mapO, elems])⟩
    simp [d18, c18, zipE, go_nil, go_last, go_past, go_pastR, go_blkN, go_blkR, go_blkE, go_skip, go_exit, go_ret, go_scope, go_seq, go_reg, go_regd, go_opdN, go_opd, go_opdG, grdd_b, grdd_u, stpd_some, find_some, go_block, go_cond, cnd_b, go_opsN, go_ops, go_opsG, grd_b, grd_u, stp_some, fin_some, up_some, cont_some, k_call, k_mv, k_pick, k_bin, k_eqB, k_eqA, k_not, k_neg, k_conv, k_alloc, k_boxA, k_boxI, k_boxB, k_boxN, k_boxBs, k_ldR, k_ldA, k_ldI, k_ldB, k_stA, k_stI, k_stB, ldC_some, stC_some, k_mkfn, k_slc, k_slcA, k_ixA, k_ixBs, k_ixSl, k_fadr, k_fld, k_ext, k_len, k_app, k_mn, k_mx, k_nilck, k_build, k_bsl1, k_bsl2, b_add, b_sub, b_mul, b_eql, b_neq, b_lss, b_leq, b_gtr, b_geq, Dn.setLast, Dn.getLast, evalO, mapO, Dn.get, putE, keepE, TV.one, TV.isAgg, Dn.part, b_quo, a1, a2, b1, b2, c1, c2, d1, d2, wn, q1']

theorem call18 {pg : Pg} (hF : Free pg) (x y : Int) : ∃ r c : Nat, Brd r c ∧ ∀ H, callRun pg (den pg) (.pu []) [.fn 18 [] [], .i .i64 x, .i .i64 y] H = some (.tup [.i .i64 (r : Int), .i .i64 (c : Int)], H) := by
  obtain ⟨r, c, h1, h2⟩ := fn18 hF x y
  exact ⟨r, c, h1, fun H => PFn.call h2 (args := [.i .i64 x, .i .i64 y]) (by simp [snapArgs, sn_i])⟩

end Go.Proofs.Tryd.Dn

