/-
  Sets: their elements and sizes; lists compared.
-/
import Derived.Test.YtgmlmmgpcbollaaDoorQm
set_option linter.unusedSimpArgs false
set_option linter.unusedVariables false

namespace Go.Proofs.Tryd.Dn
open Go.Dn

/-- the elements of a set -/
def bitsOf (s : Nat) : List Nat := (List.range 5).filter fun i => s.testBit i

theorem bitsOf_mem {s i : Nat} (hs : s < 32) : i ∈ bitsOf s ↔ s.testBit i = true := by
  unfold bitsOf
  rw [List.mem_filter, List.mem_range]
  constructor
  · exact fun h => h.2
  · intro h
    refine ⟨?_, h⟩
    apply Classical.byContradiction
    intro hi
    rw [Nat.testBit_lt_two_pow (by have : 2 ^ 5 ≤ 2 ^ i := Nat.pow_le_pow_right (by decide) (by omega); omega)] at h
    cases h

theorem bitsOf_len (s : Nat) : (bitsOf s).length ≤ 5 := by
  have := List.length_filter_le (fun i => s.testBit i) (List.range 5)
  simpa [bitsOf] using this

theorem range5_drop {k : Nat} (h : k < 5) : (List.range 5).drop k = k :: (List.range 5).drop (k + 1) := range_drop h

theorem l61_all {pg : Pg} {s : Nat} (hs : s < 65536) {base : Nat} {H0 : Heap} : ∀ (d i : Nat) (R : TV) (m : List Int) (H : Heap), i + d = 5 → RowInv base H0 H R m → m.length ≤ i →
    ∃ e R' H', den pg l61_1 [(0, .i .i64 (s : Int)), (3, R), (5, .i .i64 (i : Int))] H = some ⟨.exit 0, e, H'⟩ ∧ Dn.get e 3 = some R' ∧ RowInv base H0 H' R' (m ++ nI (((List.range 5).drop i).filter fun i => s.testBit i))
  | 0, i, R, m, H, h, hr, hml => by
    obtain rfl : i = 5 := by omega
    refine ⟨[(0, .i .i64 (s : Int)), (3, R), (5, .i .i64 5), (6, .b false)], R, H, ?_, rfl, by rw [List.drop_eq_nil_of_le (by simp)]; simpa [nI] using hr⟩
    rw [l61_1, den_loop]
    simp [b61_0, go_nil, go_last, go_past, go_pastR, go_blkN, go_blkR, go_blkE, go_skip, go_exit, go_ret, go_scope, go_seq, go_reg, go_regd, go_opdN, go_opd, go_opdG, grdd_b, grdd_u, stpd_some, find_some, go_block, go_cond, cnd_b, go_opsN, go_ops, go_opsG, grd_b, grd_u, stp_some, fin_some, up_some, cont_some, k_call, k_mv, k_pick, k_bin, k_eqB, k_eqA, k_not, k_neg, k_conv, k_alloc, k_boxA, k_boxI, k_boxB, k_boxN, k_boxBs, k_ldR, k_ldA, k_ldI, k_ldB, k_stA, k_stI, k_stB, ldC_some, stC_some, k_mkfn, k_slc, k_slcA, k_ixA, k_ixBs, k_ixSl, k_fadr, k_fld, k_ext, k_len, k_app, k_mn, k_mx, k_nilck, k_build, k_bsl1, k_bsl2, b_add, b_sub, b_mul, b_eql, b_neq, b_lss, b_leq, b_gtr, b_geq, Dn.setLast, Dn.getLast, evalO, mapO, Dn.get, putE, keepE, TV.one, TV.isAgg, Dn.part]
  | d + 1, i, R, m, H, h, hr, hml => by
    have hi : i < 5 := by omega
    have e1 : ((i : Int) < 5) := by omega
    have e2 : wrapR .i64 ((i : Int) + 1) = .i .i64 ((i : Int) + 1) := wrapR_i64 (by omega)
    have eU : wrapR .u64 (i : Int) = .i .u64 (i : Int) := by unfold wrapR; simp [IntKind.wrap, IntKind.signed, IntKind.bits]; omega
    obtain ⟨b1, b2⟩ := bit_run (s := s) (k := i) hs (by omega)
    rw [range5_drop hi, List.filter_cons]
    generalize ((s / 2 ^ i : Nat) : Int) = sh at b1 b2
    cases hb : s.testBit i with
    | false =>
      have hv : bitV s i = 0 := by unfold bitV; rw [hb]; rfl
      rw [hv] at b2
      obtain ⟨e, R2, H2, h3, h4, h5⟩ := l61_all (pg := pg) hs d (i + 1) R m H (by omega) hr (by omega)
      refine ⟨e, R2, H2, Eq.trans ?_ h3, h4, by simpa using h5⟩
      rw [l61_1, den_loop]
      simp [l61_1, b61_0, go_nil, go_last, go_past, go_pastR, go_blkN, go_blkR, go_blkE, go_skip, go_exit, go_ret, go_scope, go_seq, go_reg, go_regd, go_opdN, go_opd, go_opdG, grdd_b, grdd_u, stpd_some, find_some, go_block, go_cond, cnd_b, go_opsN, go_ops, go_opsG, grd_b, grd_u, stp_some, fin_some, up_some, cont_some, k_call, k_mv, k_pick, k_bin, k_eqB, k_eqA, k_not, k_neg, k_conv, k_alloc, k_boxA, k_boxI, k_boxB, k_boxN, k_boxBs, k_ldR, k_ldA, k_ldI, k_ldB, k_stA, k_stI, k_stB, ldC_some, stC_some, k_mkfn, k_slc, k_slcA, k_ixA, k_ixBs, k_ixSl, k_fadr, k_fld, k_ext, k_len, k_app, k_mn, k_mx, k_nilck, k_build, k_bsl1, k_bsl2, b_add, b_sub, b_mul, b_eql, b_neq, b_lss, b_leq, b_gtr, b_geq, Dn.setLast, Dn.getLast, evalO, mapO, Dn.get, putE, keepE, TV.one, TV.isAgg, Dn.part, e1, e2, eU, b1, b2]
    | true =>
      have hv : bitV s i = 1 := by unfold bitV; rw [hb]; rfl
      rw [hv] at b2
      obtain ⟨R', H', h1, h2⟩ := hr.push (i : Int) (by omega)
      obtain ⟨e, R2, H2, h3, h4, h5⟩ := l61_all (pg := pg) hs d (i + 1) R' _ H' (by omega) h2 (by simp; omega)
      refine ⟨e, R2, H2, Eq.trans ?_ h3, h4, by simpa [nI] using h5⟩
      rw [l61_1, den_loop]
      simp [l61_1, b61_0, go_nil, go_last, go_past, go_pastR, go_blkN, go_blkR, go_blkE, go_skip, go_exit, go_ret, go_scope, go_seq, go_reg, go_regd, go_opdN, go_opd, go_opdG, grdd_b, grdd_u, stpd_some, find_some, go_block, go_cond, cnd_b, go_opsN, go_ops, go_opsG, grd_b, grd_u, stp_some, fin_some, up_some, cont_some, k_call, k_mv, k_pick, k_bin, k_eqB, k_eqA, k_not, k_neg, k_conv, k_alloc, k_boxA, k_boxI, k_boxB, k_boxN, k_boxBs, k_ldR, k_ldA, k_ldI, k_ldB, k_stA, k_stI, k_stB, ldC_some, stC_some, k_mkfn, k_slc, k_slcA, k_ixA, k_ixBs, k_ixSl, k_fadr, k_fld, k_ext, k_len, k_app, k_mn, k_mx, k_nilck, k_build, k_bsl1, k_bsl2, b_add, b_sub, b_mul, b_eql, b_neq, b_lss, b_leq, b_gtr, b_geq, Dn.setLast, Dn.getLast, evalO, mapO, Dn.get, putE, keepE, TV.one, TV.isAgg, Dn.part, e1, e2, eU, b1, b2, h1]

theorem body61 {pg : Pg} (hF : Free pg) {s : Nat} (hs : s < 65536) (H : Heap) : ∃ R H', bodyRun pg (den pg) 61 [.i .i64 (s : Int)] H = some (R, H') ∧ RowInv H.length H H' R (nI (bitsOf s)) := by
  obtain ⟨e, R, H', h1, h2, h3⟩ := l61_all (pg := pg) hs 5 0 .nilsl [] H (by omega) (RowInv.nil H) (by simp)
  simp only [Int.natCast_zero] at h1
  rw [List.nil_append, show ((List.range 5).drop 0).filter (fun i => s.testBit i) = bitsOf s from rfl] at h3
  refine ⟨R, H', body_of (x := .ret) (e := [(2, R)]) (d := d61) (by rw [hF.F]; rfl) rfl ?_ (.inl rfl) rfl, h3⟩
  simp [d61, c61, zipE, go_nil, go_last, go_past, go_pastR, go_blkN, go_blkR, go_blkE, go_skip, go_exit, go_ret, go_scope, go_seq, go_reg, go_regd, go_opdN, go_opd, go_opdG, grdd_b, grdd_u, stpd_some, find_some, go_block, go_cond, cnd_b, go_opsN, go_ops, go_opsG, grd_b, grd_u, stp_some, fin_some, up_some, cont_some, k_call, k_mv, k_pick, k_bin, k_eqB, k_eqA, k_not, k_neg, k_conv, k_alloc, k_boxA, k_boxI, k_boxB, k_boxN, k_boxBs, k_ldR, k_ldA, k_ldI, k_ldB, k_stA, k_stI, k_stB, ldC_some, stC_some, k_mkfn, k_slc, k_slcA, k_ixA, k_ixBs, k_ixSl, k_fadr, k_fld, k_ext, k_len, k_app, k_mn, k_mx, k_nilck, k_build, k_bsl1, k_bsl2, b_add, b_sub, b_mul, b_eql, b_neq, b_lss, b_leq, b_gtr, b_geq, Dn.setLast, Dn.getLast, evalO, mapO, Dn.get, putE, keepE, TV.one, TV.isAgg, Dn.part, go_denK (c := l61_1) rfl, h1, h2]

/-! sizes -/

def ones (x : Nat) : Nat :=
  let y1 := (x / 2 &&& 6148914691236517205) + (x &&& 6148914691236517205)
  let y2 := (y1 / 4 &&& 3689348814741910323) + (y1 &&& 3689348814741910323)
  let y3 := (y2 / 16 + y2) &&& 1085102592571150095
  let y4 := y3 + y3 / 256
  let y5 := y4 + y4 / 65536
  let y6 := y5 + y5 / 4294967296
  y6 &&& 127

theorem ones_all : ((List.range 32).all fun x => ones x == (bitsOf x).length) = true := by kernel_rfl

theorem ones_bits {x : Nat} (h : x < 32) : ones x = (bitsOf x).length := by
  have := List.all_eq_true.1 ones_all x (List.mem_range.2 h)
  simpa using this

theorem ofInt_nat (m : Nat) : BitVec.ofInt 64 (m : Int) = BitVec.ofNat 64 m := by simp

theorem and_eq {m k : Nat} (hm : m < 65536) (hk : k < 65536) : binI .and (.i .i64 (m : Int)) (.i .i64 (k : Int)) = some (.i .i64 ((m &&& k : Nat) : Int)) := by
  have h1 : (m &&& k) ≤ m := Nat.and_le_left
  have : ((BitVec.ofInt 64 (m : Int)) &&& (BitVec.ofInt 64 (k : Int))).toNat = m &&& k := by
    rw [ofInt_nat, ofInt_nat, BitVec.toNat_and]
    simp only [BitVec.toNat_ofNat]
    rw [Nat.mod_eq_of_lt (by omega : m < 2 ^ 64), Nat.mod_eq_of_lt (by omega : k < 2 ^ 64)]
  rw [show binI .and (.i .i64 (m : Int)) (.i .i64 (k : Int)) = some (wrapR .i64 ((BitVec.ofInt 64 (m : Int)) &&& (BitVec.ofInt 64 (k : Int))).toNat) from rfl, this, wrapR_i64 (by omega)]

theorem and_u {m c : Nat} (hm : m < 1000000) (hc : c < 2 ^ 64) : binI .and (.i .u64 (m : Int)) (.i .u64 (c : Int)) = some (.i .u64 ((m &&& c : Nat) : Int)) := by
  have h1 : (m &&& c) ≤ m := Nat.and_le_left
  have : ((BitVec.ofInt 64 (m : Int)) &&& (BitVec.ofInt 64 (c : Int))).toNat = m &&& c := by
    rw [ofInt_nat, ofInt_nat, BitVec.toNat_and]
    simp only [BitVec.toNat_ofNat]
    rw [Nat.mod_eq_of_lt (by omega : m < 2 ^ 64), Nat.mod_eq_of_lt hc]
  have h2 : wrapR .u64 ((m &&& c : Nat) : Int) = .i .u64 ((m &&& c : Nat) : Int) := by
    generalize m &&& c = z at h1
    unfold wrapR; simp [IntKind.wrap, IntKind.signed, IntKind.bits]; omega
  rw [show binI .and (.i .u64 (m : Int)) (.i .u64 (c : Int)) = some (wrapR .u64 ((BitVec.ofInt 64 (m : Int)) &&& (BitVec.ofInt 64 (c : Int))).toNat) from rfl, this, h2]

theorem shr_u {m : Nat} (c : Nat) (hc : c < 64) : binI .shr (.i .u64 (m : Int)) (.i .u64 (c : Int)) = some (.i .u64 ((m / 2 ^ c : Nat) : Int)) := by
  have h0 : ¬ ((c : Int) < 0) := by omega
  have h1 : min c 64 = c := by omega
  have h2 : (0 : Int) ≤ 2 ^ c := Int.le_of_lt (Int.pow_pos (by decide))
  simp [binI, h1, IntKind.bits, Int.fdiv_eq_ediv_of_nonneg _ h2]

theorem add_u {m c : Nat} (h : m + c < 1000000000) : wrapR .u64 ((m : Int) + (c : Int)) = .i .u64 ((m + c : Nat) : Int) := by
  unfold wrapR; simp [IntKind.wrap, IntKind.signed, IntKind.bits]; omega

theorem fn83 {pg : Pg} (hF : Free pg) {x : Nat} (hx : x < 32) : PFn pg 83 [.i .u64 (x : Int)] (.i .i64 ((bitsOf x).length : Int)) := by
  rw [← ones_bits hx]
  have s1 := shr_u (m := x) 1 (by omega)
  have a1 := and_u (m := x / 2 ^ 1) (c := 6148914691236517205) (by omega) (by omega)
  have a1' := and_u (m := x) (c := 6148914691236517205) (by omega) (by omega)
  have l1 : (x / 2 ^ 1 &&& 6148914691236517205) ≤ x / 2 ^ 1 := Nat.and_le_left
  have l1' : (x &&& 6148914691236517205) ≤ x := Nat.and_le_left
  unfold ones
  simp only [show x / 2 ^ 1 = x / 2 by omega] at s1 a1 l1
  generalize (x / 2 &&& 6148914691236517205) = u1 at a1 l1 ⊢
  generalize (x &&& 6148914691236517205) = v1 at a1' l1' ⊢
  have p1 := add_u (m := u1) (c := v1) (by omega)
  simp only
  generalize hy1 : u1 + v1 = y1 at p1 ⊢
  have s2 := shr_u (m := y1) 2 (by omega)
  simp only [show y1 / 2 ^ 2 = y1 / 4 by omega] at s2
  have a2 := and_u (m := y1 / 4) (c := 3689348814741910323) (by omega) (by omega)
  have a2' := and_u (m := y1) (c := 3689348814741910323) (by omega) (by omega)
  have l2 : (y1 / 4 &&& 3689348814741910323) ≤ y1 / 4 := Nat.and_le_left
  have l2' : (y1 &&& 3689348814741910323) ≤ y1 := Nat.and_le_left
  generalize (y1 / 4 &&& 3689348814741910323) = u2 at a2 l2 ⊢
  generalize (y1 &&& 3689348814741910323) = v2 at a2' l2' ⊢
  have p2 := add_u (m := u2) (c := v2) (by omega)
  generalize hy2 : u2 + v2 = y2 at p2 ⊢
  have s3 := shr_u (m := y2) 4 (by omega)
  simp only [show y2 / 2 ^ 4 = y2 / 16 by omega] at s3
  have p3 := add_u (m := y2 / 16) (c := y2) (by omega)
  have a3 := and_u (m := y2 / 16 + y2) (c := 1085102592571150095) (by omega) (by omega)
  have l3 : ((y2 / 16 + y2) &&& 1085102592571150095) ≤ y2 / 16 + y2 := Nat.and_le_left
  generalize ((y2 / 16 + y2) &&& 1085102592571150095) = y3 at a3 l3 ⊢
  have s4 := shr_u (m := y3) 8 (by omega)
  simp only [show y3 / 2 ^ 8 = y3 / 256 by omega] at s4
  have p4 := add_u (m := y3) (c := y3 / 256) (by omega)
  generalize hy4 : y3 + y3 / 256 = y4 at p4 ⊢
  have s5 := shr_u (m := y4) 16 (by omega)
  simp only [show y4 / 2 ^ 16 = y4 / 65536 by omega] at s5
  have p5 := add_u (m := y4) (c := y4 / 65536) (by omega)
  generalize hy5 : y4 + y4 / 65536 = y5 at p5 ⊢
  have s6 := shr_u (m := y5) 32 (by omega)
  simp only [show y5 / 2 ^ 32 = y5 / 4294967296 by omega] at s6
  have p6 := add_u (m := y5) (c := y5 / 4294967296) (by omega)
  generalize hy6 : y5 + y5 / 4294967296 = y6 at p6 ⊢
  have c6 : wrapR .i64 (y6 : Int) = .i .i64 (y6 : Int) := wrapR_i64 (by omega)
  have a7 := and_eq (m := y6) (k := 127) (by omega) (by omega)
  simp only [Int.cast_ofNat_Int] at s1 a1 a1' s2 a2 a2' s3 a3 s4 s5 s6 a7
  refine .of1 (x := .ret) (e := [(2, .i .i64 ((y6 &&& 127 : Nat) : Int))]) (H' := []) (hF.S _ _ (by decide)) (d := d83) (by rw [hF.F]; rfl) rfl ?_ (.inl rfl) rfl (by simp [sn_i, sn_b, sn_nil, sn8_i, sn8_b, sn8_nil, sn7_i, sn7_b, sn_sl, sn8_sl, slB_some, sn_tup, sn_agg, sn8_agg, mapO, elems])
  simp only [d83, c83, zipE]
  simp only [go_nil, go_pastR, go_seq, go_reg, go_opsN, go_ops, go_ret, stp_some, fin_some, up_some, k_mv, k_bin, k_conv, b_add, evalO, mapO, Dn.get, putE, keepE, Option.bind_some, Option.map_some, ↓reduceIte, Nat.reduceEqDiff, List.filterMap_cons, List.filterMap_nil, s1, a1, a1', p1, s2, a2, a2', p2, s3, p3, a3, s4, p4, s5, p5, s6, p6, c6, a7]

theorem call59 {pg : Pg} (hF : Free pg) {x : Nat} (hx : x < 32) (H : Heap) : callRun pg (den pg) (.pu []) [.fn 59 [] [], .i .u64 (x : Int)] H = some (.i .i64 ((bitsOf x).length : Int), H) := by
  have c83 := PFn.call (fn83 hF hx) (args := [.i .u64 (x : Int)]) (ks := []) (fs := []) (cs := []) (H := []) (by simp [snapArgs, sn_i])
  refine PFn.call (xs := [.i .u64 (x : Int)]) (.of1 (x := .ret) (e := [(2, .i .i64 ((bitsOf x).length : Int))]) (H' := []) (hF.S _ _ (by decide)) (d := d59) (by rw [hF.F]; rfl) rfl ?_ (.inl rfl) rfl (by simp [sn_i, sn_b, sn_nil, sn8_i, sn8_b, sn8_nil, sn7_i, sn7_b, sn_sl, sn8_sl, slB_some, sn_tup, sn_agg, sn8_agg, mapO, elems])) (args := [.i .u64 (x : Int)]) (by simp [snapArgs, sn_i])
  simp [d59, c59, zipE, go_nil, go_last, go_past, go_pastR, go_blkN, go_blkR, go_blkE, go_skip, go_exit, go_ret, go_scope, go_seq, go_reg, go_regd, go_opdN, go_opd, go_opdG, grdd_b, grdd_u, stpd_some, find_some, go_block, go_cond, cnd_b, go_opsN, go_ops, go_opsG, grd_b, grd_u, stp_some, fin_some, up_some, cont_some, k_call, k_mv, k_pick, k_bin, k_eqB, k_eqA, k_not, k_neg, k_conv, k_alloc, k_boxA, k_boxI, k_boxB, k_boxN, k_boxBs, k_ldR, k_ldA, k_ldI, k_ldB, k_stA, k_stI, k_stB, ldC_some, stC_some, k_mkfn, k_slc, k_slcA, k_ixA, k_ixBs, k_ixSl, k_fadr, k_fld, k_ext, k_len, k_app, k_mn, k_mx, k_nilck, k_build, k_bsl1, k_bsl2, b_add, b_sub, b_mul, b_eql, b_neq, b_lss, b_leq, b_gtr, b_geq, Dn.setLast, Dn.getLast, evalO, mapO, Dn.get, putE, keepE, TV.one, TV.isAgg, Dn.part, c83]

/-! lists compared -/

theorem call93 {pg : Pg} (hF : Free pg) (v : Int) (H : Heap) : callRun pg (den pg) (.pu []) [.fn 93 [] [], .i .i64 v] H = some (.b false, H) := by
  refine PFn.call (xs := [.i .i64 v]) (.of1 (x := .ret) (e := [(2, .b false)]) (H' := []) (hF.S _ _ (by decide)) (d := d93) (by rw [hF.F]; rfl) rfl ?_ (.inl rfl) rfl (by simp [sn_i, sn_b, sn_nil, sn8_i, sn8_b, sn8_nil, sn7_i, sn7_b, sn_sl, sn8_sl, slB_some, sn_tup, sn_agg, sn8_agg, mapO, elems])) (args := [.i .i64 v]) (by simp [snapArgs, sn_i])
  simp [d93, c93, zipE, go_nil, go_last, go_past, go_pastR, go_blkN, go_blkR, go_blkE, go_skip, go_exit, go_ret, go_scope, go_seq, go_reg, go_regd, go_opdN, go_opd, go_opdG, grdd_b, grdd_u, stpd_some, find_some, go_block, go_cond, cnd_b, go_opsN, go_ops, go_opsG, grd_b, grd_u, stp_some, fin_some, up_some, cont_some, k_call, k_mv, k_pick, k_bin, k_eqB, k_eqA, k_not, k_neg, k_conv, k_alloc, k_boxA, k_boxI, k_boxB, k_boxN, k_boxBs, k_ldR, k_ldA, k_ldI, k_ldB, k_stA, k_stI, k_stB, ldC_some, stC_some, k_mkfn, k_slc, k_slcA, k_ixA, k_ixBs, k_ixSl, k_fadr, k_fld, k_ext, k_len, k_app, k_mn, k_mx, k_nilck, k_build, k_bsl1, k_bsl2, b_add, b_sub, b_mul, b_eql, b_neq, b_lss, b_leq, b_gtr, b_geq, Dn.setLast, Dn.getLast, evalO, mapO, Dn.get, putE, keepE, TV.one, TV.isAgg, Dn.part]

def cmpI (a b : Int) : Int := if a < b then -1 else if b < a then 1 else 0
theorem cmpI_eq {a b : Int} : cmpI a b = 0 ↔ a = b := by
  unfold cmpI
  split
  · constructor <;> intro h <;> omega
  · split
    · constructor <;> intro h <;> omega
    · constructor <;> intro h <;> omega

theorem call84 {pg : Pg} (hF : Free pg) (a b : Int) (H : Heap) : callRun pg (den pg) (.pu []) [.fn 84 [] [], .i .i64 a, .i .i64 b] H = some (.i .i64 (cmpI a b), H) := by
  have c93 := call93 hF
  refine PFn.call (xs := [.i .i64 a, .i .i64 b]) (.of1 (x := .ret) (e := [(4, .i .i64 (cmpI a b))]) (H' := []) (hF.S _ _ (by decide)) (d := d84) (by rw [hF.F]; rfl) rfl ?_ (.inl rfl) rfl (by simp [sn_i, sn_b, sn_nil, sn8_i, sn8_b, sn8_nil, sn7_i, sn7_b, sn_sl, sn8_sl, slB_some, sn_tup, sn_agg, sn8_agg, mapO, elems])) (args := [.i .i64 a, .i .i64 b]) (by simp [snapArgs, sn_i])
  by_cases h1 : a < b
  · simp [d84, c84, zipE, go_nil, go_last, go_past, go_pastR, go_blkN, go_blkR, go_blkE, go_skip, go_exit, go_ret, go_scope, go_seq, go_reg, go_regd, go_opdN, go_opd, go_opdG, grdd_b, grdd_u, stpd_some, find_some, go_block, go_cond, cnd_b, go_opsN, go_ops, go_opsG, grd_b, grd_u, stp_some, fin_some, up_some, cont_some, k_call, k_mv, k_pick, k_bin, k_eqB, k_eqA, k_not, k_neg, k_conv, k_alloc, k_boxA, k_boxI, k_boxB, k_boxN, k_boxBs, k_ldR, k_ldA, k_ldI, k_ldB, k_stA, k_stI, k_stB, ldC_some, stC_some, k_mkfn, k_slc, k_slcA, k_ixA, k_ixBs, k_ixSl, k_fadr, k_fld, k_ext, k_len, k_app, k_mn, k_mx, k_nilck, k_build, k_bsl1, k_bsl2, b_add, b_sub, b_mul, b_eql, b_neq, b_lss, b_leq, b_gtr, b_geq, Dn.setLast, Dn.getLast, evalO, mapO, Dn.get, putE, keepE, TV.one, TV.isAgg, Dn.part, c93, cmpI, h1]
  · by_cases h2 : b < a
    · simp [d84, c84, zipE, go_nil, go_last, go_past, go_pastR, go_blkN, go_blkR, go_blkE, go_skip, go_exit, go_ret, go_scope, go_seq, go_reg, go_regd, go_opdN, go_opd, go_opdG, grdd_b, grdd_u, stpd_some, find_some, go_block, go_cond, cnd_b, go_opsN, go_ops, go_opsG, grd_b, grd_u, stp_some, fin_some, up_some, cont_some, k_call, k_mv, k_pick, k_bin, k_eqB, k_eqA, k_not, k_neg, k_conv, k_alloc, k_boxA, k_boxI, k_boxB, k_boxN, k_boxBs, k_ldR, k_ldA, k_ldI, k_ldB, k_stA, k_stI, k_stB, ldC_some, stC_some, k_mkfn, k_slc, k_slcA, k_ixA, k_ixBs, k_ixSl, k_fadr, k_fld, k_ext, k_len, k_app, k_mn, k_mx, k_nilck, k_build, k_bsl1, k_bsl2, b_add, b_sub, b_mul, b_eql, b_neq, b_lss, b_leq, b_gtr, b_geq, Dn.setLast, Dn.getLast, evalO, mapO, Dn.get, putE, keepE, TV.one, TV.isAgg, Dn.part, c93, cmpI, h1, h2]
    · simp [d84, c84, zipE, go_nil, go_last, go_past, go_pastR, go_blkN, go_blkR, go_blkE, go_skip, go_exit, go_ret, go_scope, go_seq, go_reg, go_regd, go_opdN, go_opd, go_opdG, grdd_b, grdd_u, stpd_some, find_some, go_block, go_cond, cnd_b, go_opsN, go_ops, go_opsG, grd_b, grd_u, stp_some, fin_some, up_some, cont_some, k_call, k_mv, k_pick, k_bin, k_eqB, k_eqA, k_not, k_neg, k_conv, k_alloc, k_boxA, k_boxI, k_boxB, k_boxN, k_boxBs, k_ldR, k_ldA, k_ldI, k_ldB, k_stA, k_stI, k_stB, ldC_some, stC_some, k_mkfn, k_slc, k_slcA, k_ixA, k_ixBs, k_ixSl, k_fadr, k_fld, k_ext, k_len, k_app, k_mn, k_mx, k_nilck, k_build, k_bsl1, k_bsl2, b_add, b_sub, b_mul, b_eql, b_neq, b_lss, b_leq, b_gtr, b_geq, Dn.setLast, Dn.getLast, evalO, mapO, Dn.get, putE, keepE, TV.one, TV.isAgg, Dn.part, c93, cmpI, h1, h2]

def cmpL : List Int → List Int → Int
  | [], [] => 0
  | [], _ :: _ => -1
  | _ :: _, [] => 1
  | x :: xs, y :: ys => if cmpI x y = 0 then cmpL xs ys else cmpI x y

theorem l62_all {pg : Pg} (hF : Free pg) {A B : TV} {a b : List Int} (hA : ∀ H, elI.View H A a) (hB : ∀ H, elI.View H B b) (ha : a.length ≤ 1000) (hb : b.length ≤ 1000) {H : Heap} : ∀ (d i : Nat), i + d = a.length → i ≤ b.length →
    (∃ e, den pg l62_1 [(0, A), (1, B), (9, A), (10, .i .i64 (a.length : Int)), (11, .i .i64 (i : Int))] H = some ⟨.exit 0, e, H⟩ ∧ Dn.get e 0 = some A ∧ Dn.get e 1 = some B ∧ cmpL (a.drop i) (b.drop i) = if a.length < b.length then -1 else 0) ∨
    den pg l62_1 [(0, A), (1, B), (9, A), (10, .i .i64 (a.length : Int)), (11, .i .i64 (i : Int))] H = some ⟨.ret, [(4, .i .i64 (cmpL (a.drop i) (b.drop i)))], H⟩
  | 0, i, h, h2 => by
    have e1 : ¬ ((i : Int) < (a.length : Int)) := by omega
    refine .inl ⟨[(0, A), (1, B), (9, A), (10, .i .i64 (a.length : Int)), (11, .i .i64 (i : Int)), (12, .b false)], ?_, rfl, rfl, ?_⟩
    · rw [l62_1, den_loop]
      simp [b62_0, go_nil, go_last, go_past, go_pastR, go_blkN, go_blkR, go_blkE, go_skip, go_exit, go_ret, go_scope, go_seq, go_reg, go_regd, go_opdN, go_opd, go_opdG, grdd_b, grdd_u, stpd_some, find_some, go_block, go_cond, cnd_b, go_opsN, go_ops, go_opsG, grd_b, grd_u, stp_some, fin_some, up_some, cont_some, k_call, k_mv, k_pick, k_bin, k_eqB, k_eqA, k_not, k_neg, k_conv, k_alloc, k_boxA, k_boxI, k_boxB, k_boxN, k_boxBs, k_ldR, k_ldA, k_ldI, k_ldB, k_stA, k_stI, k_stB, ldC_some, stC_some, k_mkfn, k_slc, k_slcA, k_ixA, k_ixBs, k_ixSl, k_fadr, k_fld, k_ext, k_len, k_app, k_mn, k_mx, k_nilck, k_build, k_bsl1, k_bsl2, b_add, b_sub, b_mul, b_eql, b_neq, b_lss, b_leq, b_gtr, b_geq, Dn.setLast, Dn.getLast, evalO, mapO, Dn.get, putE, keepE, TV.one, TV.isAgg, Dn.part, e1]
    · rw [List.drop_eq_nil_of_le (by omega)]
      by_cases hl : a.length < b.length
      · rw [if_pos hl, List.drop_eq_getElem_cons (by omega)]; rfl
      · rw [if_neg hl, List.drop_eq_nil_of_le (by omega)]; rfl
  | d + 1, i, h, h2 => by
    have hi : i < a.length := by omega
    have e1 : ((i : Int) < (a.length : Int)) := by omega
    have e2 : wrapR .i64 ((i : Int) + 1) = .i .i64 ((i : Int) + 1) := wrapR_i64 (by omega)
    have hlb := (hB H).lenK
    obtain ⟨p, hp, hv⟩ := ixI (pg := pg) (R := den pg) (hA H) (List.getElem?_eq_getElem hi)
    rw [List.drop_eq_getElem_cons hi]
    by_cases hib : i < b.length
    · have e3 : ¬ ((b.length : Int) ≤ (i : Int)) := by omega
      obtain ⟨q, hq, hw⟩ := ixI (pg := pg) (R := den pg) (hB H) (List.getElem?_eq_getElem hib)
      rw [List.drop_eq_getElem_cons hib]
      have c84 := call84 hF a[i] b[i] H
      generalize hx : a[i] = x at *
      generalize hy : b[i] = y at *
      rw [cmpL]
      by_cases hc : cmpI x y = 0
      · rw [if_pos hc]
        rw [hc] at c84
        have hstep : den pg l62_1 [(0, A), (1, B), (9, A), (10, .i .i64 (a.length : Int)), (11, .i .i64 (i : Int))] H = den pg l62_1 [(0, A), (1, B), (9, A), (10, .i .i64 (a.length : Int)), (11, .i .i64 ((i + 1 : Nat) : Int))] H := by
          rw [l62_1, den_loop]
          simp [l62_1, b62_0, go_nil, go_last, go_past, go_pastR, go_blkN, go_blkR, go_blkE, go_skip, go_exit, go_ret, go_scope, go_seq, go_reg, go_regd, go_opdN, go_opd, go_opdG, grdd_b, grdd_u, stpd_some, find_some, go_block, go_cond, cnd_b, go_opsN, go_ops, go_opsG, grd_b, grd_u, stp_some, fin_some, up_some, cont_some, k_call, k_mv, k_pick, k_bin, k_eqB, k_eqA, k_not, k_neg, k_conv, k_alloc, k_boxA, k_boxI, k_boxB, k_boxN, k_boxBs, k_ldR, k_ldA, k_ldI, k_ldB, k_stA, k_stI, k_stB, ldC_some, stC_some, k_mkfn, k_slc, k_slcA, k_ixA, k_ixBs, k_ixSl, k_fadr, k_fld, k_ext, k_len, k_app, k_mn, k_mx, k_nilck, k_build, k_bsl1, k_bsl2, b_add, b_sub, b_mul, b_eql, b_neq, b_lss, b_leq, b_gtr, b_geq, Dn.setLast, Dn.getLast, evalO, mapO, Dn.get, putE, keepE, TV.one, TV.isAgg, Dn.part, e1, e2, hp, hv, hlb, e3, hq, hw, c84]
        rw [hstep]
        exact l62_all hF hA hB ha hb d (i + 1) (by omega) (by omega)
      · rw [if_neg hc]
        have hc' : (cmpI x y != 0) = true := by simpa using hc
        refine .inr ?_
        rw [l62_1, den_loop]
        simp [b62_0, go_nil, go_last, go_past, go_pastR, go_blkN, go_blkR, go_blkE, go_skip, go_exit, go_ret, go_scope, go_seq, go_reg, go_regd, go_opdN, go_opd, go_opdG, grdd_b, grdd_u, stpd_some, find_some, go_block, go_cond, cnd_b, go_opsN, go_ops, go_opsG, grd_b, grd_u, stp_some, fin_some, up_some, cont_some, k_call, k_mv, k_pick, k_bin, k_eqB, k_eqA, k_not, k_neg, k_conv, k_alloc, k_boxA, k_boxI, k_boxB, k_boxN, k_boxBs, k_ldR, k_ldA, k_ldI, k_ldB, k_stA, k_stI, k_stB, ldC_some, stC_some, k_mkfn, k_slc, k_slcA, k_ixA, k_ixBs, k_ixSl, k_fadr, k_fld, k_ext, k_len, k_app, k_mn, k_mx, k_nilck, k_build, k_bsl1, k_bsl2, b_add, b_sub, b_mul, b_eql, b_neq, b_lss, b_leq, b_gtr, b_geq, Dn.setLast, Dn.getLast, evalO, mapO, Dn.get, putE, keepE, TV.one, TV.isAgg, Dn.part, e1, hp, hv, hlb, e3, hq, hw, c84, hc']
    · have e3 : ((b.length : Int) ≤ (i : Int)) := by omega
      rw [List.drop_eq_nil_of_le (by omega : b.length ≤ i), cmpL]
      refine .inr ?_
      rw [l62_1, den_loop]
      simp [b62_0, go_nil, go_last, go_past, go_pastR, go_blkN, go_blkR, go_blkE, go_skip, go_exit, go_ret, go_scope, go_seq, go_reg, go_regd, go_opdN, go_opd, go_opdG, grdd_b, grdd_u, stpd_some, find_some, go_block, go_cond, cnd_b, go_opsN, go_ops, go_opsG, grd_b, grd_u, stp_some, fin_some, up_some, cont_some, k_call, k_mv, k_pick, k_bin, k_eqB, k_eqA, k_not, k_neg, k_conv, k_alloc, k_boxA, k_boxI, k_boxB, k_boxN, k_boxBs, k_ldR, k_ldA, k_ldI, k_ldB, k_stA, k_stI, k_stB, ldC_some, stC_some, k_mkfn, k_slc, k_slcA, k_ixA, k_ixBs, k_ixSl, k_fadr, k_fld, k_ext, k_len, k_app, k_mn, k_mx, k_nilck, k_build, k_bsl1, k_bsl2, b_add, b_sub, b_mul, b_eql, b_neq, b_lss, b_leq, b_gtr, b_geq, Dn.setLast, Dn.getLast, evalO, mapO, Dn.get, putE, keepE, TV.one, TV.isAgg, Dn.part, e1, hp, hv, hlb, e3]

theorem call62g {pg : Pg} (hF : Free pg) {A B A' B' : TV} {a b : List Int} {H : Heap} (s1 : Dn.snap .borrow H 9 A = some A') (s2 : SV A' a) (t1 : Dn.snap .borrow H 9 B = some B') (t2 : SV B' b) (ha : a.length ≤ 1000) (hb : b.length ≤ 1000) : callRun pg (den pg) (.pu []) [.fn 62 [] [], A, B] H = some (.i .i64 (cmpL a b), H) := by
  have hla := (s2.view []).lenK
  have hlb := (t2.view []).lenK
  have hd : pg.F 62 = some d62 := by rw [hF.F]; rfl
  refine PFn.call (xs := [A', B']) (.of1 (x := .ret) (e := [(4, .i .i64 (cmpL a b))]) (H' := []) (hF.S _ _ (by decide)) hd rfl ?_ (.inl rfl) rfl (by simp [sn_i, sn_b, sn_nil, sn8_i, sn8_b, sn8_nil, sn7_i, sn7_b, sn_sl, sn8_sl, slB_some, sn_tup, sn_agg, sn8_agg, mapO, elems])) (args := [A, B]) (by simp [snapArgs, s1, t1])
  have hm1 : wrapR .i64 (-1) = .i .i64 (-1) := wrapR_i64 (by omega)
  rcases l62_all (pg := pg) hF (fun H => s2.view H) (fun H => t2.view H) ha hb (H := []) a.length 0 (by omega) (by omega) with ⟨e, h1, h2, h3, h4⟩ | h1
  · simp only [Int.natCast_zero, List.drop_zero] at h1 h4
    rw [h4]
    by_cases hl : a.length < b.length
    · have hl' : ((a.length : Int) < (b.length : Int)) := by omega
      simp [d62, c62, zipE, go_nil, go_last, go_past, go_pastR, go_blkN, go_blkR, go_blkE, go_skip, go_exit, go_ret, go_scope, go_seq, go_reg, go_regd, go_opdN, go_opd, go_opdG, grdd_b, grdd_u, stpd_some, find_some, go_block, go_cond, cnd_b, go_opsN, go_ops, go_opsG, grd_b, grd_u, stp_some, fin_some, up_some, cont_some, k_call, k_mv, k_pick, k_bin, k_eqB, k_eqA, k_not, k_neg, k_conv, k_alloc, k_boxA, k_boxI, k_boxB, k_boxN, k_boxBs, k_ldR, k_ldA, k_ldI, k_ldB, k_stA, k_stI, k_stB, ldC_some, stC_some, k_mkfn, k_slc, k_slcA, k_ixA, k_ixBs, k_ixSl, k_fadr, k_fld, k_ext, k_len, k_app, k_mn, k_mx, k_nilck, k_build, k_bsl1, k_bsl2, b_add, b_sub, b_mul, b_eql, b_neq, b_lss, b_leq, b_gtr, b_geq, Dn.setLast, Dn.getLast, evalO, mapO, Dn.get, putE, keepE, TV.one, TV.isAgg, Dn.part, hla, hlb, go_denK (c := l62_1) rfl, h1, h2, h3, hl', hl]
    · have hl' : ¬ ((a.length : Int) < (b.length : Int)) := by omega
      simp [d62, c62, zipE, go_nil, go_last, go_past, go_pastR, go_blkN, go_blkR, go_blkE, go_skip, go_exit, go_ret, go_scope, go_seq, go_reg, go_regd, go_opdN, go_opd, go_opdG, grdd_b, grdd_u, stpd_some, find_some, go_block, go_cond, cnd_b, go_opsN, go_ops, go_opsG, grd_b, grd_u, stp_some, fin_some, up_some, cont_some, k_call, k_mv, k_pick, k_bin, k_eqB, k_eqA, k_not, k_neg, k_conv, k_alloc, k_boxA, k_boxI, k_boxB, k_boxN, k_boxBs, k_ldR, k_ldA, k_ldI, k_ldB, k_stA, k_stI, k_stB, ldC_some, stC_some, k_mkfn, k_slc, k_slcA, k_ixA, k_ixBs, k_ixSl, k_fadr, k_fld, k_ext, k_len, k_app, k_mn, k_mx, k_nilck, k_build, k_bsl1, k_bsl2, b_add, b_sub, b_mul, b_eql, b_neq, b_lss, b_leq, b_gtr, b_geq, Dn.setLast, Dn.getLast, evalO, mapO, Dn.get, putE, keepE, TV.one, TV.isAgg, Dn.part, hla, hlb, go_denK (c := l62_1) rfl, h1, h2, h3, hl', hl]
  · simp only [Int.natCast_zero, List.drop_zero] at h1
    simp [d62, c62, zipE, go_nil, go_last, go_past, go_pastR, go_blkN, go_blkR, go_blkE, go_skip, go_exit, go_ret, go_scope, go_seq, go_reg, go_regd, go_opdN, go_opd, go_opdG, grdd_b, grdd_u, stpd_some, find_some, go_block, go_cond, cnd_b, go_opsN, go_ops, go_opsG, grd_b, grd_u, stp_some, fin_some, up_some, cont_some, k_call, k_mv, k_pick, k_bin, k_eqB, k_eqA, k_not, k_neg, k_conv, k_alloc, k_boxA, k_boxI, k_boxB, k_boxN, k_boxBs, k_ldR, k_ldA, k_ldI, k_ldB, k_stA, k_stI, k_stB, ldC_some, stC_some, k_mkfn, k_slc, k_slcA, k_ixA, k_ixBs, k_ixSl, k_fadr, k_fld, k_ext, k_len, k_app, k_mn, k_mx, k_nilck, k_build, k_bsl1, k_bsl2, b_add, b_sub, b_mul, b_eql, b_neq, b_lss, b_leq, b_gtr, b_geq, Dn.setLast, Dn.getLast, evalO, mapO, Dn.get, putE, keepE, TV.one, TV.isAgg, Dn.part, hla, hlb, go_denK (c := l62_1) rfl, h1]

/-- the reference's order, on lists of one length -/
theorem l67_all {pg : Pg} {A B : TV} {a b : List Int} (hA : ∀ H, elI.View H A a) (hB : ∀ H, elI.View H B b) (ha : a.length ≤ 1000) (hab : a.length = b.length) {H : Heap} : ∀ (d i : Nat), i + d = a.length →
    (∃ e, den pg l67_1 [(0, A), (1, B), (5, .i .i64 (i : Int))] H = some ⟨.exit 0, e, H⟩ ∧ decide (cmpL (a.drop i) (b.drop i) < 0) = false) ∨
    den pg l67_1 [(0, A), (1, B), (5, .i .i64 (i : Int))] H = some ⟨.ret, [(4, .b (decide (cmpL (a.drop i) (b.drop i) < 0)))], H⟩
  | 0, i, h => by
    have e1 : ¬ ((i : Int) < (a.length : Int)) := by omega
    have hla := (hA H).lenK
    refine .inl ⟨[(0, A), (1, B), (5, .i .i64 (i : Int)), (9, .b false)], ?_, ?_⟩
    · rw [l67_1, den_loop]
      simp [b67_0, go_nil, go_last, go_past, go_pastR, go_blkN, go_blkR, go_blkE, go_skip, go_exit, go_ret, go_scope, go_seq, go_reg, go_regd, go_opdN, go_opd, go_opdG, grdd_b, grdd_u, stpd_some, find_some, go_block, go_cond, cnd_b, go_opsN, go_ops, go_opsG, grd_b, grd_u, stp_some, fin_some, up_some, cont_some, k_call, k_mv, k_pick, k_bin, k_eqB, k_eqA, k_not, k_neg, k_conv, k_alloc, k_boxA, k_boxI, k_boxB, k_boxN, k_boxBs, k_ldR, k_ldA, k_ldI, k_ldB, k_stA, k_stI, k_stB, ldC_some, stC_some, k_mkfn, k_slc, k_slcA, k_ixA, k_ixBs, k_ixSl, k_fadr, k_fld, k_ext, k_len, k_app, k_mn, k_mx, k_nilck, k_build, k_bsl1, k_bsl2, b_add, b_sub, b_mul, b_eql, b_neq, b_lss, b_leq, b_gtr, b_geq, Dn.setLast, Dn.getLast, evalO, mapO, Dn.get, putE, keepE, TV.one, TV.isAgg, Dn.part, hla, e1]
    · rw [List.drop_eq_nil_of_le (by omega), List.drop_eq_nil_of_le (by omega)]; rfl
  | d + 1, i, h => by
    have hi : i < a.length := by omega
    have hib : i < b.length := by omega
    have e1 : ((i : Int) < (a.length : Int)) := by omega
    have e2 : wrapR .i64 ((i : Int) + 1) = .i .i64 ((i : Int) + 1) := wrapR_i64 (by omega)
    have hla := (hA H).lenK
    obtain ⟨p, hp, hv⟩ := ixI (pg := pg) (R := den pg) (hA H) (List.getElem?_eq_getElem hi)
    obtain ⟨q, hq, hw⟩ := ixI (pg := pg) (R := den pg) (hB H) (List.getElem?_eq_getElem hib)
    rw [List.drop_eq_getElem_cons hi, List.drop_eq_getElem_cons hib]
    generalize a[i] = x at *
    generalize b[i] = y at *
    rw [cmpL]
    by_cases hc : x = y
    · rw [if_pos (cmpI_eq.2 hc)]
      have hstep : den pg l67_1 [(0, A), (1, B), (5, .i .i64 (i : Int))] H = den pg l67_1 [(0, A), (1, B), (5, .i .i64 ((i + 1 : Nat) : Int))] H := by
        rw [l67_1, den_loop]
        simp [l67_1, b67_0, go_nil, go_last, go_past, go_pastR, go_blkN, go_blkR, go_blkE, go_skip, go_exit, go_ret, go_scope, go_seq, go_reg, go_regd, go_opdN, go_opd, go_opdG, grdd_b, grdd_u, stpd_some, find_some, go_block, go_cond, cnd_b, go_opsN, go_ops, go_opsG, grd_b, grd_u, stp_some, fin_some, up_some, cont_some, k_call, k_mv, k_pick, k_bin, k_eqB, k_eqA, k_not, k_neg, k_conv, k_alloc, k_boxA, k_boxI, k_boxB, k_boxN, k_boxBs, k_ldR, k_ldA, k_ldI, k_ldB, k_stA, k_stI, k_stB, ldC_some, stC_some, k_mkfn, k_slc, k_slcA, k_ixA, k_ixBs, k_ixSl, k_fadr, k_fld, k_ext, k_len, k_app, k_mn, k_mx, k_nilck, k_build, k_bsl1, k_bsl2, b_add, b_sub, b_mul, b_eql, b_neq, b_lss, b_leq, b_gtr, b_geq, Dn.setLast, Dn.getLast, evalO, mapO, Dn.get, putE, keepE, TV.one, TV.isAgg, Dn.part, hla, e1, e2, hp, hv, hq, hw, hc]
      rw [hstep]
      exact l67_all hA hB ha hab d (i + 1) (by omega)
    · rw [if_neg (fun h => hc (cmpI_eq.1 h))]
      have hc' : (x != y) = true := by simpa using hc
      have hl : decide (cmpI x y < 0) = decide (x < y) := by
        rw [decide_eq_decide]; unfold cmpI
        split
        · constructor <;> intro <;> omega
        · split <;> constructor <;> intro <;> omega
      rw [hl]
      refine .inr ?_
      rw [l67_1, den_loop]
      simp [b67_0, go_nil, go_last, go_past, go_pastR, go_blkN, go_blkR, go_blkE, go_skip, go_exit, go_ret, go_scope, go_seq, go_reg, go_regd, go_opdN, go_opd, go_opdG, grdd_b, grdd_u, stpd_some, find_some, go_block, go_cond, cnd_b, go_opsN, go_ops, go_opsG, grd_b, grd_u, stp_some, fin_some, up_some, cont_some, k_call, k_mv, k_pick, k_bin, k_eqB, k_eqA, k_not, k_neg, k_conv, k_alloc, k_boxA, k_boxI, k_boxB, k_boxN, k_boxBs, k_ldR, k_ldA, k_ldI, k_ldB, k_stA, k_stI, k_stB, ldC_some, stC_some, k_mkfn, k_slc, k_slcA, k_ixA, k_ixBs, k_ixSl, k_fadr, k_fld, k_ext, k_len, k_app, k_mn, k_mx, k_nilck, k_build, k_bsl1, k_bsl2, b_add, b_sub, b_mul, b_eql, b_neq, b_lss, b_leq, b_gtr, b_geq, Dn.setLast, Dn.getLast, evalO, mapO, Dn.get, putE, keepE, TV.one, TV.isAgg, Dn.part, hla, e1, hp, hv, hq, hw, hc']

theorem call67 {pg : Pg} (hF : Free pg) {A B : TV} {a b : List Int} {H : Heap} {A' B' : TV} (hA : Dn.snap .borrow H 9 A = some A') (hA2 : SV A' a) (hB : Dn.snap .borrow H 9 B = some B') (hB2 : SV B' b) (ha : a.length ≤ 1000) (hab : a.length = b.length) : callRun pg (den pg) (.pu []) [.fn 67 [] [], A, B] H = some (.b (decide (cmpL a b < 0)), H) := by
  have hd : pg.F 67 = some d67 := by rw [hF.F]; rfl
  refine PFn.call (xs := [A', B']) (.of1 (x := .ret) (e := [(4, .b (decide (cmpL a b < 0)))]) (H' := []) (hF.S _ _ (by decide)) hd rfl ?_ (.inl rfl) rfl (by simp [sn_i, sn_b, sn_nil, sn8_i, sn8_b, sn8_nil, sn7_i, sn7_b, sn_sl, sn8_sl, slB_some, sn_tup, sn_agg, sn8_agg, mapO, elems])) (args := [A, B]) (by simp [snapArgs, hA, hB])
  rcases l67_all (pg := pg) (fun H => hA2.view H) (fun H => hB2.view H) ha hab (H := []) a.length 0 (by omega) with ⟨e, h1, h2⟩ | h1
  · simp only [Int.natCast_zero, List.drop_zero] at h1 h2
    rw [h2]
    simp [d67, c67, zipE, go_nil, go_last, go_past, go_pastR, go_blkN, go_blkR, go_blkE, go_skip, go_exit, go_ret, go_scope, go_seq, go_reg, go_regd, go_opdN, go_opd, go_opdG, grdd_b, grdd_u, stpd_some, find_some, go_block, go_cond, cnd_b, go_opsN, go_ops, go_opsG, grd_b, grd_u, stp_some, fin_some, up_some, cont_some, k_call, k_mv, k_pick, k_bin, k_eqB, k_eqA, k_not, k_neg, k_conv, k_alloc, k_boxA, k_boxI, k_boxB, k_boxN, k_boxBs, k_ldR, k_ldA, k_ldI, k_ldB, k_stA, k_stI, k_stB, ldC_some, stC_some, k_mkfn, k_slc, k_slcA, k_ixA, k_ixBs, k_ixSl, k_fadr, k_fld, k_ext, k_len, k_app, k_mn, k_mx, k_nilck, k_build, k_bsl1, k_bsl2, b_add, b_sub, b_mul, b_eql, b_neq, b_lss, b_leq, b_gtr, b_geq, Dn.setLast, Dn.getLast, evalO, mapO, Dn.get, putE, keepE, TV.one, TV.isAgg, Dn.part, go_denK (c := l67_1) rfl, h1]
  · simp only [Int.natCast_zero, List.drop_zero] at h1
    simp [d67, c67, zipE, go_nil, go_last, go_past, go_pastR, go_blkN, go_blkR, go_blkE, go_skip, go_exit, go_ret, go_scope, go_seq, go_reg, go_regd, go_opdN, go_opd, go_opdG, grdd_b, grdd_u, stpd_some, find_some, go_block, go_cond, cnd_b, go_opsN, go_ops, go_opsG, grd_b, grd_u, stp_some, fin_some, up_some, cont_some, k_call, k_mv, k_pick, k_bin, k_eqB, k_eqA, k_not, k_neg, k_conv, k_alloc, k_boxA, k_boxI, k_boxB, k_boxN, k_boxBs, k_ldR, k_ldA, k_ldI, k_ldB, k_stA, k_stI, k_stB, ldC_some, stC_some, k_mkfn, k_slc, k_slcA, k_ixA, k_ixBs, k_ixSl, k_fadr, k_fld, k_ext, k_len, k_app, k_mn, k_mx, k_nilck, k_build, k_bsl1, k_bsl2, b_add, b_sub, b_mul, b_eql, b_neq, b_lss, b_leq, b_gtr, b_geq, Dn.setLast, Dn.getLast, evalO, mapO, Dn.get, putE, keepE, TV.one, TV.isAgg, Dn.part, go_denK (c := l67_1) rfl, h1]

end Go.Proofs.Tryd.Dn

/-
  Most observations of one taste: the program's search through all sets.
-/

namespace Go.Proofs.Tryd.Dn
open Go.Dn

/-- whether a set has a ring -/
def ringS (X : List Obs) (s : Nat) : Prop := ∃ i k, Pair X s 1 1 i k

open Classical in
/-- one set, against the best so far -/
noncomputable def stepM (X : List Obs) (s : Nat) (bl : List Nat) : List Nat :=
  if (bitsOf s).length < bl.length ∨ ringS X s then bl else if bl.length < (bitsOf s).length ∨ cmpL (nI (bitsOf s)) (nI bl) < 0 then bitsOf s else bl

noncomputable def mostN (X : List Obs) : Nat → List Nat
  | 0 => []
  | k + 1 => stepM X (k + 1) (mostN X k)

theorem stepM_len {X : List Obs} {s : Nat} {bl : List Nat} (h : bl.length ≤ 5) : (stepM X s bl).length ≤ 5 := by
  unfold stepM
  split
  · exact h
  · split
    · exact bitsOf_len s
    · exact h

theorem mostN_len (X : List Obs) : ∀ k, (mostN X k).length ≤ 5
  | 0 => by simp [mostN]
  | k + 1 => stepM_len (mostN_len X k)

def L20 (c d : Nat) : ALoop := { env := [(4, .ref c 0), (6, .ref d 0)], params := [20], assign := a20_0, body := b20_1, st := .ready, pend := none }

structure SMost (X : List Obs) (H0 : Heap) (M c d b lp : Nat) (H : Heap) (bl : List Nat) : Prop where
  old : ∀ j, j < M → H[j]? = H0[j]?
  m : H[M]? = some (.cells (mX X) true)
  hc : H[c]? = some (.cells [.ref M 0] false)
  hd : ∃ R, H[d]? = some (.cells [R] false) ∧ elI.Own H R (nI bl) ∧ ∀ id, R.idOf = some id → lp < id
  hb : H[b]? = some (.cells [.ref M 0] false)
  hlp : H[lp]? = some (.loop (L20 c d))

theorem SMost.grow {X : List Obs} {H0 : Heap} {M c d b lp : Nat} {H H' : Heap} {bl : List Nat} (h : SMost X H0 M c d b lp H bl) (h0 : M < c) (hcd : c < d) (hdb : d < b) (hbl : b < lp) (hf : ∀ j, j < H.length → H'[j]? = H[j]?) : SMost X H0 M c d b lp H' bl := by
  have hlt := (List.getElem?_eq_some_iff.1 h.hlp).1
  obtain ⟨R, r1, r2, r3⟩ := h.hd
  exact ⟨fun j hj => by rw [hf j (by omega)]; exact h.old j hj, by rw [hf M (by omega)]; exact h.m, by rw [hf c (by omega)]; exact h.hc,
    ⟨R, by rw [hf d (by omega)]; exact r1, r2.mono fun id hid => hf id (r2.lt id hid), r3⟩, by rw [hf b (by omega)]; exact h.hb, by rw [hf lp (by omega)]; exact h.hlp⟩

theorem b20_round {pg : Pg} (hF : Free pg) {X : List Obs} {g : Nat} (hm : Market X g) {H0 : Heap} {M c d b lp : Nat} (h0 : M < c) (hcd : c < d) (hdb : d < b) (hbl : b < lp) {s : Nat} (hs : s < 32) {bl : List Nat} (hl : bl.length ≤ 5) {H : Heap} (h : SMost X H0 M c d b lp H bl) :
    ∃ H', Body pg lp (L20 c d) [.i .i64 (s : Int)] H .normal H' ∧ SMost X H0 M c d b lp H' (stepM X s bl) := by
  have hlt := (List.getElem?_eq_some_iff.1 h.hlp).1
  obtain ⟨R, r1, r2, r3⟩ := h.hd
  have eU : wrapR .u64 (s : Int) = .i .u64 (s : Int) := by unfold wrapR; simp [IntKind.wrap, IntKind.signed, IntKind.bits]; omega
  have hass : den pg a20_0 [(20, .i .i64 (s : Int)), (4, .ref c 0), (6, .ref d 0)] H = some ⟨.normal, [(4, .ref c 0), (6, .ref d 0), (7, .i .i64 (s : Int))], H⟩ := by
    rw [den_eq, runC_go]
    simp [a20_0, go_nil, go_last, go_past, go_pastR, go_blkN, go_blkR, go_blkE, go_skip, go_exit, go_ret, go_scope, go_seq, go_reg, go_regd, go_opdN, go_opd, go_opdG, grdd_b, grdd_u, stpd_some, find_some, go_block, go_cond, cnd_b, go_opsN, go_ops, go_opsG, grd_b, grd_u, stp_some, fin_some, up_some, cont_some, k_call, k_mv, k_pick, k_bin, k_eqB, k_eqA, k_not, k_neg, k_conv, k_alloc, k_boxA, k_boxI, k_boxB, k_boxN, k_boxBs, k_ldR, k_ldA, k_ldI, k_ldB, k_stA, k_stI, k_stB, ldC_some, stC_some, k_mkfn, k_slc, k_slcA, k_ixA, k_ixBs, k_ixSl, k_fadr, k_fld, k_ext, k_len, k_app, k_mn, k_mx, k_nilck, k_build, k_bsl1, k_bsl2, b_add, b_sub, b_mul, b_eql, b_neq, b_lss, b_leq, b_gtr, b_geq, Dn.setLast, Dn.getLast, evalO, mapO, Dn.get, putE, keepE, TV.one, TV.isAgg, Dn.part]
  obtain ⟨HB, hB⟩ : ∃ HB, HB = H.set lp (.loop { L20 c d with st := .busy }) := ⟨_, rfl⟩
  have kB : ∀ i, i ≠ lp → HB[i]? = H[i]? := fun i hi => by rw [hB]; exact List.getElem?_set_ne (by omega)
  have hBl : HB[lp]? = some (.loop { L20 c d with st := .busy }) := by rw [hB]; exact List.getElem?_set_self hlt
  have hHBl : HB.length = H.length := by rw [hB]; simp
  have hback : HB.set lp (.loop (L20 c d)) = H := by
    rw [hB, List.set_set]
    apply List.ext_getElem?
    intro i
    by_cases hi : i = lp
    · subst hi; rw [List.getElem?_set_self hlt, h.hlp]
    · rw [List.getElem?_set_ne (by omega)]
  have c59 := call59 hF hs HB
  have rB : elI.Own HB R (nI bl) := r2.mono fun id hid => kB id (by have := r3 id hid; omega)
  have rn := Own_one rB
  have l6 := ld_box (pg := pg) (R := den pg) (H := HB) (by rw [kB d (by omega)]; exact r1) rn.2.1
  have l4 := ld_box (pg := pg) (R := den pg) (H := HB) (t := .ref M 0) (by rw [kB c (by omega)]; exact h.hc) rfl
  have hlen := rB.view.lenK HB
  rw [nI_len] at hlen
  obtain ⟨r, c60, w1, w2⟩ := call60 hF hm (s0 := s) (by omega) (ba := 1) (bb := 1) (by omega) (by omega)
  have c60' := c60 HB M (by rw [kB M (by omega)]; exact h.m)
  have hnn := nil_ne (pg := pg) (R := den pg) r
  obtain ⟨R1, H1, c61, g1⟩ := body61 hF (s := s) (by omega) HB
  have k1 : ∀ j, j < H.length → H1[j]? = HB[j]? := fun j hj => g1.old j (by omega)
  have rB1 : elI.Own H1 R (nI bl) := rB.mono fun id hid => k1 id (by have := rB.lt id hid; omega)
  have c62 := call62g hF (pg := pg) (g1.own.snap elI_flat) (.lt true _) (rB1.snap elI_flat) (.lt true _) (by rw [nI_len]; have := bitsOf_len s; omega) (by rw [nI_len]; omega)
  have l6' := ld_box (pg := pg) (R := den pg) (H := H1) (t := R) (by rw [k1 d (by omega), kB d (by omega)]; exact r1) rn.2.1
  have hlen' := rB1.view.lenK H1
  rw [nI_len] at hlen'
  have hbits := bitsOf_len s
  have hH1l := g1.len
  have hB1 : H1[lp]? = some (.loop { L20 c d with st := .busy }) := by rw [k1 lp hlt]; exact hBl
  have stay : ∀ e2, den pg b20_1 [(4, .ref c 0), (6, .ref d 0), (7, .i .i64 (s : Int))] HB = some ⟨.normal, e2, HB⟩ → stepM X s bl = bl → ∃ H', Body pg lp (L20 c d) [.i .i64 (s : Int)] H .normal H' ∧ SMost X H0 M c d b lp H' (stepM X s bl) := by
    intro e2 hr he
    rw [he]
    exact ⟨H, ⟨_, H, e2, HB, hass, h.hlp, by rw [← hB]; exact hr, hBl, hback.symm⟩, h⟩
  have stay1 : ∀ e2, den pg b20_1 [(4, .ref c 0), (6, .ref d 0), (7, .i .i64 (s : Int))] HB = some ⟨.normal, e2, H1⟩ → stepM X s bl = bl → ∃ H', Body pg lp (L20 c d) [.i .i64 (s : Int)] H .normal H' ∧ SMost X H0 M c d b lp H' (stepM X s bl) := by
    intro e2 hr he
    rw [he]
    refine ⟨H1.set lp (.loop (L20 c d)), ⟨_, H, e2, H1, hass, h.hlp, by rw [← hB]; exact hr, hB1, rfl⟩, h.grow h0 hcd hdb hbl fun j hj => ?_⟩
    by_cases hj2 : j = lp
    · subst hj2; rw [List.getElem?_set_self (by omega), h.hlp]
    · rw [List.getElem?_set_ne (by omega), k1 j hj, kB j hj2]
  by_cases q1 : (bitsOf s).length < bl.length
  · have q1' : ((bitsOf s).length : Int) < (bl.length : Int) := by omega
    refine stay [(6, .ref d 0), (7, .i .i64 (s : Int)), (8, .i .i64 ((bitsOf s).length : Int)), (34, .b true)] ?_ (by unfold stepM; rw [if_pos (.inl q1)])
    rw [den_eq, runC_go]
    simp [b20_1, go_nil, go_last, go_past, go_pastR, go_blkN, go_blkR, go_blkE, go_skip, go_exit, go_ret, go_scope, go_seq, go_reg, go_regd, go_opdN, go_opd, go_opdG, grdd_b, grdd_u, stpd_some, find_some, go_block, go_cond, cnd_b, go_opsN, go_ops, go_opsG, grd_b, grd_u, stp_some, fin_some, up_some, cont_some, k_call, k_mv, k_pick, k_bin, k_eqB, k_eqA, k_not, k_neg, k_conv, k_alloc, k_boxA, k_boxI, k_boxB, k_boxN, k_boxBs, k_ldR, k_ldA, k_ldI, k_ldB, k_stA, k_stI, k_stB, ldC_some, stC_some, k_mkfn, k_slc, k_slcA, k_ixA, k_ixBs, k_ixSl, k_fadr, k_fld, k_ext, k_len, k_app, k_mn, k_mx, k_nilck, k_build, k_bsl1, k_bsl2, b_add, b_sub, b_mul, b_eql, b_neq, b_lss, b_leq, b_gtr, b_geq, Dn.setLast, Dn.getLast, evalO, mapO, Dn.get, putE, keepE, TV.one, TV.isAgg, Dn.part, eU, c59, l6, hlen, q1']
  · have q1' : ¬ ((bitsOf s).length : Int) < (bl.length : Int) := by omega
    by_cases q2 : ringS X s
    · have hne : r ≠ [] := fun hr => w1.1 hr q2
      have hd : decide (r ≠ []) = true := by simpa using hne
      rw [hd] at hnn
      refine stay [(6, .ref d 0), (7, .i .i64 (s : Int)), (8, .i .i64 ((bitsOf s).length : Int)), (34, .b true)] ?_ (by unfold stepM; rw [if_pos (.inr q2)])
      rw [den_eq, runC_go]
      simp [b20_1, go_nil, go_last, go_past, go_pastR, go_blkN, go_blkR, go_blkE, go_skip, go_exit, go_ret, go_scope, go_seq, go_reg, go_regd, go_opdN, go_opd, go_opdG, grdd_b, grdd_u, stpd_some, find_some, go_block, go_cond, cnd_b, go_opsN, go_ops, go_opsG, grd_b, grd_u, stp_some, fin_some, up_some, cont_some, k_call, k_mv, k_pick, k_bin, k_eqB, k_eqA, k_not, k_neg, k_conv, k_alloc, k_boxA, k_boxI, k_boxB, k_boxN, k_boxBs, k_ldR, k_ldA, k_ldI, k_ldB, k_stA, k_stI, k_stB, ldC_some, stC_some, k_mkfn, k_slc, k_slcA, k_ixA, k_ixBs, k_ixSl, k_fadr, k_fld, k_ext, k_len, k_app, k_mn, k_mx, k_nilck, k_build, k_bsl1, k_bsl2, b_add, b_sub, b_mul, b_eql, b_neq, b_lss, b_leq, b_gtr, b_geq, Dn.setLast, Dn.getLast, evalO, mapO, Dn.get, putE, keepE, TV.one, TV.isAgg, Dn.part, eU, c59, l6, hlen, q1', l4, hF.G, c60', hnn]
    · have hr : r = [] := w1.2 q2
      have hd : decide (r ≠ []) = false := by simpa using hr
      rw [hd] at hnn
      have hstep : stepM X s bl = if bl.length < (bitsOf s).length ∨ cmpL (nI (bitsOf s)) (nI bl) < 0 then bitsOf s else bl := by
        unfold stepM; rw [if_neg (by rintro (h | h); exact q1 h; exact q2 h)]
      by_cases q3 : bl.length < (bitsOf s).length ∨ cmpL (nI (bitsOf s)) (nI bl) < 0
      · rw [if_pos q3] at hstep
        have rn1 := Own_one g1.own
        have st6 := st_box (pg := pg) (R := den pg) (H := H1) (v := R1) (by rw [k1 d (by omega), kB d (by omega)]; exact r1) rn1.1
        have hdl : d < H.length := by omega
        rw [hstep]
        refine ⟨(H1.set d (.cells [R1] false)).set lp (.loop (L20 c d)), ⟨_, H, [], H1.set d (.cells [R1] false), hass, h.hlp, ?_, by rw [List.getElem?_set_ne (by omega)]; exact hB1, rfl⟩, ?_⟩
        · rw [← hB]
          show den pg b20_1 _ HB = _
          rw [den_eq, runC_go]
          by_cases q4 : bl.length < (bitsOf s).length
          · have q4' : (bl.length : Int) < ((bitsOf s).length : Int) := by omega
            simp [b20_1, go_nil, go_last, go_past, go_pastR, go_blkN, go_blkR, go_blkE, go_skip, go_exit, go_ret, go_scope, go_seq, go_reg, go_regd, go_opdN, go_opd, go_opdG, grdd_b, grdd_u, stpd_some, find_some, go_block, go_cond, cnd_b, go_opsN, go_ops, go_opsG, grd_b, grd_u, stp_some, fin_some, up_some, cont_some, k_call, k_mv, k_pick, k_bin, k_eqB, k_eqA, k_not, k_neg, k_conv, k_alloc, k_boxA, k_boxI, k_boxB, k_boxN, k_boxBs, k_ldR, k_ldA, k_ldI, k_ldB, k_stA, k_stI, k_stB, ldC_some, stC_some, k_mkfn, k_slc, k_slcA, k_ixA, k_ixBs, k_ixSl, k_fadr, k_fld, k_ext, k_len, k_app, k_mn, k_mx, k_nilck, k_build, k_bsl1, k_bsl2, b_add, b_sub, b_mul, b_eql, b_neq, b_lss, b_leq, b_gtr, b_geq, Dn.setLast, Dn.getLast, evalO, mapO, Dn.get, putE, keepE, TV.one, TV.isAgg, Dn.part, eU, c59, l6, hlen, q1', l4, hF.G, c60', hnn, sh_fn, c61, l6', hlen', q4', st6]
          · have q4' : ¬ (bl.length : Int) < ((bitsOf s).length : Int) := by omega
            have q5 : cmpL (nI (bitsOf s)) (nI bl) < 0 := q3.resolve_left q4
            simp [b20_1, go_nil, go_last, go_past, go_pastR, go_blkN, go_blkR, go_blkE, go_skip, go_exit, go_ret, go_scope, go_seq, go_reg, go_regd, go_opdN, go_opd, go_opdG, grdd_b, grdd_u, stpd_some, find_some, go_block, go_cond, cnd_b, go_opsN, go_ops, go_opsG, grd_b, grd_u, stp_some, fin_some, up_some, cont_some, k_call, k_mv, k_pick, k_bin, k_eqB, k_eqA, k_not, k_neg, k_conv, k_alloc, k_boxA, k_boxI, k_boxB, k_boxN, k_boxBs, k_ldR, k_ldA, k_ldI, k_ldB, k_stA, k_stI, k_stB, ldC_some, stC_some, k_mkfn, k_slc, k_slcA, k_ixA, k_ixBs, k_ixSl, k_fadr, k_fld, k_ext, k_len, k_app, k_mn, k_mx, k_nilck, k_build, k_bsl1, k_bsl2, b_add, b_sub, b_mul, b_eql, b_neq, b_lss, b_leq, b_gtr, b_geq, Dn.setLast, Dn.getLast, evalO, mapO, Dn.get, putE, keepE, TV.one, TV.isAgg, Dn.part, eU, c59, l6, hlen, q1', l4, hF.G, c60', hnn, sh_fn, c61, l6', hlen', q4', c62, q5, st6]
        · have hk : ∀ i, i ≠ d → i ≠ lp → i < H.length → ((H1.set d (.cells [R1] false)).set lp (.loop (L20 c d)))[i]? = H[i]? := fun i h1 h2 h3 => by
            rw [List.getElem?_set_ne (by omega), List.getElem?_set_ne (by omega), k1 i h3, kB i h2]
          refine ⟨fun j hj => by rw [hk j (by omega) (by omega) (by omega)]; exact h.old j hj, by rw [hk M (by omega) (by omega) (by omega)]; exact h.m, by rw [hk c (by omega) (by omega) (by omega)]; exact h.hc,
            ⟨R1, by rw [List.getElem?_set_ne (by omega), List.getElem?_set_self (by omega)], g1.own.mono fun id hid => ?_, fun id hid => by have := g1.new id hid; omega⟩, by rw [hk b (by omega) (by omega) (by omega)]; exact h.hb,
            by rw [List.getElem?_set_self (by simp; omega)]⟩
          have := g1.new id hid
          rw [List.getElem?_set_ne (by omega), List.getElem?_set_ne (by omega)]
      · rw [if_neg q3] at hstep
        have q4' : ¬ (bl.length : Int) < ((bitsOf s).length : Int) := by omega
        have q5 : ¬ cmpL (nI (bitsOf s)) (nI bl) < 0 := fun h => q3 (.inr h)
        refine stay1 [(6, .ref d 0), (9, R1), (46, .b false)] ?_ hstep
        rw [den_eq, runC_go]
        simp [b20_1, go_nil, go_last, go_past, go_pastR, go_blkN, go_blkR, go_blkE, go_skip, go_exit, go_ret, go_scope, go_seq, go_reg, go_regd, go_opdN, go_opd, go_opdG, grdd_b, grdd_u, stpd_some, find_some, go_block, go_cond, cnd_b, go_opsN, go_ops, go_opsG, grd_b, grd_u, stp_some, fin_some, up_some, cont_some, k_call, k_mv, k_pick, k_bin, k_eqB, k_eqA, k_not, k_neg, k_conv, k_alloc, k_boxA, k_boxI, k_boxB, k_boxN, k_boxBs, k_ldR, k_ldA, k_ldI, k_ldB, k_stA, k_stI, k_stB, ldC_some, stC_some, k_mkfn, k_slc, k_slcA, k_ixA, k_ixBs, k_ixSl, k_fadr, k_fld, k_ext, k_len, k_app, k_mn, k_mx, k_nilck, k_build, k_bsl1, k_bsl2, b_add, b_sub, b_mul, b_eql, b_neq, b_lss, b_leq, b_gtr, b_geq, Dn.setLast, Dn.getLast, evalO, mapO, Dn.get, putE, keepE, TV.one, TV.isAgg, Dn.part, eU, c59, l6, hlen, q1', l4, hF.G, c60', hnn, sh_fn, c61, l6', hlen', q4', c62, q5]

theorem l81_all {pg : Pg} (hF : Free pg) {X : List Obs} {g : Nat} (hm : Market X g) {H0 : Heap} {M c d b lp : Nat} (h0 : M < c) (hcd : c < d) (hdb : d < b) (hbl : b < lp) : ∀ (k s : Nat) (H : Heap), s + k + 1 = 2 ^ X.length → SMost X H0 M c d b lp H (mostN X s) →
    ∃ e H', den pg l81_1 [(0, .yl lp), (1, .ref b 0), (3, .i .i64 ((s + 1 : Nat) : Int))] H = some ⟨.exit 0, e, H'⟩ ∧ SMost X H0 M c d b lp H' (mostN X (2 ^ X.length - 1))
  | 0, s, H, hk, h => by
    have hn5 := hm.n5
    obtain ⟨p1, p2⟩ := pow5 hn5
    have lb := ld_box (pg := pg) (R := den pg) (H := H) (t := .ref M 0) h.hb rfl
    have c57 := call57 hF hm h.m
    have hs : 2 ^ X.length - 1 = s := by omega
    rw [hs] at c57 ⊢
    have e1 : ¬ ((s + 1 : Nat) : Int) ≤ (s : Int) := by omega
    refine ⟨[(0, .yl lp), (1, .ref b 0), (3, .i .i64 ((s + 1 : Nat) : Int)), (12, .b false)], H, ?_, h⟩
    generalize ((s + 1 : Nat) : Int) = s1 at *
    rw [l81_1, den_loop]
    simp [b81_0, go_nil, go_last, go_past, go_pastR, go_blkN, go_blkR, go_blkE, go_skip, go_exit, go_ret, go_scope, go_seq, go_reg, go_regd, go_opdN, go_opd, go_opdG, grdd_b, grdd_u, stpd_some, find_some, go_block, go_cond, cnd_b, go_opsN, go_ops, go_opsG, grd_b, grd_u, stp_some, fin_some, up_some, cont_some, k_call, k_mv, k_pick, k_bin, k_eqB, k_eqA, k_not, k_neg, k_conv, k_alloc, k_boxA, k_boxI, k_boxB, k_boxN, k_boxBs, k_ldR, k_ldA, k_ldI, k_ldB, k_stA, k_stI, k_stB, ldC_some, stC_some, k_mkfn, k_slc, k_slcA, k_ixA, k_ixBs, k_ixSl, k_fadr, k_fld, k_ext, k_len, k_app, k_mn, k_mx, k_nilck, k_build, k_bsl1, k_bsl2, b_add, b_sub, b_mul, b_eql, b_neq, b_lss, b_leq, b_gtr, b_geq, Dn.setLast, Dn.getLast, evalO, mapO, Dn.get, putE, keepE, TV.one, TV.isAgg, Dn.part, lb, c57, e1]
  | k + 1, s, H, hk, h => by
    have hn5 := hm.n5
    obtain ⟨p1, p2⟩ := pow5 hn5
    have lb := ld_box (pg := pg) (R := den pg) (H := H) (t := .ref M 0) h.hb rfl
    have c57 := call57 hF hm h.m
    have e1 : ((s + 1 : Nat) : Int) ≤ ((2 ^ X.length - 1 : Nat) : Int) := by omega
    have e2 : wrapR .i64 (((s + 1 : Nat) : Int) + 1) = .i .i64 ((s + 1 + 1 : Nat) : Int) := by
      rw [show ((s + 1 : Nat) : Int) + 1 = ((s + 1 + 1 : Nat) : Int) by omega]; exact wrapR_i64 (by omega)
    obtain ⟨H1, hb, h1⟩ := b20_round hF hm h0 hcd hdb hbl (s := s + 1) (by omega) (mostN_len X s) h
    have hy := yield_of rfl rfl (by rfl) h.hlp hb
    rw [if_pos rfl] at hy
    obtain ⟨e, H', k1, k2⟩ := l81_all hF hm h0 hcd hdb hbl k (s + 1) H1 (by omega) h1
    refine ⟨e, H', Eq.trans ?_ k1, k2⟩
    generalize ((s + 1 + 1 : Nat) : Int) = s2 at *
    generalize ((s + 1 : Nat) : Int) = s1 at *
    generalize ((2 ^ X.length - 1 : Nat) : Int) = al at *
    rw [l81_1, den_loop]
    simp [l81_1, b81_0, go_nil, go_last, go_past, go_pastR, go_blkN, go_blkR, go_blkE, go_skip, go_exit, go_ret, go_scope, go_seq, go_reg, go_regd, go_opdN, go_opd, go_opdG, grdd_b, grdd_u, stpd_some, find_some, go_block, go_cond, cnd_b, go_opsN, go_ops, go_opsG, grd_b, grd_u, stp_some, fin_some, up_some, cont_some, k_call, k_mv, k_pick, k_bin, k_eqB, k_eqA, k_not, k_neg, k_conv, k_alloc, k_boxA, k_boxI, k_boxB, k_boxN, k_boxBs, k_ldR, k_ldA, k_ldI, k_ldB, k_stA, k_stI, k_stB, ldC_some, stC_some, k_mkfn, k_slc, k_slcA, k_ixA, k_ixBs, k_ixSl, k_fadr, k_fld, k_ext, k_len, k_app, k_mn, k_mx, k_nilck, k_build, k_bsl1, k_bsl2, b_add, b_sub, b_mul, b_eql, b_neq, b_lss, b_leq, b_gtr, b_geq, Dn.setLast, Dn.getLast, evalO, mapO, Dn.get, putE, keepE, TV.one, TV.isAgg, Dn.part, lb, c57, e1, sh_yl, hy, e2]

/-- the most observations of one taste: in any heap -/
theorem body20 {pg : Pg} (hF : Free pg) {X : List Obs} {g : Nat} (hm : Market X g) {T : TV} (hT : Rws T X) (H : Heap) : ∃ best H', bodyRun pg (den pg) 20 [T] H = some (.tup [best, .i .i64 0], H') ∧ H.length ≤ H'.length ∧ (∀ j, j < H.length → H'[j]? = H[j]?) ∧ elI.Own H' best (nI (mostN X (2 ^ X.length - 1))) ∧ ∀ id, best.idOf = some id → H.length ≤ id := by
  have hn5 := hm.n5
  obtain ⟨p1, p2⟩ := pow5 hn5
  obtain ⟨H1, h1, h2, h3, h4⟩ := body53 hF hm (P := .nilsl) (P' := .nilsl) (ps := []) hT (.inl ⟨rfl, rfl⟩) (by simp) (by simp) (H := H) (sn_nil _ _)
  have hd : pg.F 20 = some d20 := by rw [hF.F]; rfl
  have hd58 : pg.F 58 = some d58 := by rw [hF.F]; rfl
  obtain ⟨M, hM⟩ : ∃ M, M = H.length := ⟨_, rfl⟩
  rw [← hM] at h1 h2 h3
  obtain ⟨c, hc⟩ : ∃ c, c = H1.length := ⟨_, rfl⟩
  have stC := st_box (pg := pg) (R := den pg) (H := H1 ++ [.cells [.nilp] false]) (id := H1.length) (v := .ref M 0) (getLast _ _) rfl
  rw [Dn.setLast, ← hc] at stC
  obtain ⟨HB, hB⟩ : ∃ HB, HB = H1 ++ [.cells [.ref M 0] false] := ⟨_, rfl⟩
  rw [← hB] at stC
  have lB : HB.length = c + 1 := by rw [hB, hc]; simp
  obtain ⟨HC, hC⟩ : ∃ HC, HC = HB ++ [.cells [.nilsl] false] := ⟨_, rfl⟩
  have lC : HC.length = c + 2 := by rw [hC]; simp [lB]
  obtain ⟨HD, hD⟩ : ∃ HD, HD = HC ++ [.cells [.ref M 0] false] := ⟨_, rfl⟩
  have lD : HD.length = c + 3 := by rw [hD]; simp [lC]
  have kH1 : ∀ j, j < c → HD[j]? = H1[j]? := fun j hj => by
    rw [hD, List.getElem?_append_left (by omega), hC, List.getElem?_append_left (by omega), hB, List.getElem?_append_left (by omega)]
  have kc : HD[c]? = some (.cells [.ref M 0] false) := by
    rw [hD, List.getElem?_append_left (by omega), hC, List.getElem?_append_left (by omega), hB, hc]; exact getLast _ _
  have kd : HD[c + 1]? = some (.cells [.nilsl] false) := by
    rw [hD, List.getElem?_append_left (by omega), hC, ← lB]; exact getLast _ _
  have kb : HD[c + 2]? = some (.cells [.ref M 0] false) := by
    rw [hD, ← lC]; exact getLast _ _
  have kL : ∀ j (Z : List AObj), j < c + 3 → (HD ++ Z)[j]? = HD[j]? := fun j Z hj => List.getElem?_append_left (by omega)
  have s0 : SMost X H M c (c + 1) (c + 2) (c + 3) (HD ++ [.loop (L20 c (c + 1))]) (mostN X 0) :=
    ⟨fun j hj => by rw [kL j _ (by omega), kH1 j (by omega)]; exact h4 j (by omega), by rw [kL M _ (by omega), kH1 M (by omega)]; exact h2, by rw [kL c _ (by omega)]; exact kc, ⟨.nilsl, by rw [kL _ _ (by omega)]; exact kd, .inl ⟨rfl, rfl⟩, fun id h => (by cases h)⟩, by rw [kL _ _ (by omega)]; exact kb, by rw [← lD]; exact getLast _ _⟩
  obtain ⟨e, H', r1, r2⟩ := l81_all hF hm (H0 := H) (M := M) (c := c) (d := c + 1) (b := c + 2) (lp := c + 3) (by omega) (by omega) (by omega) (by omega) (2 ^ X.length - 1) 0 _ (by omega) s0
  have hb81 : bodyRun pg (den pg) 81 [.yl (c + 3), .ref (c + 2) 0] (HD ++ [.loop (L20 c (c + 1))]) = some (.tup [], H') := by
    refine bodyRun_of (vs := []) (o := ⟨.normal, e, H'⟩) (d := d81) (by rw [hF.F]; rfl) rfl ?_ (by simp) rfl
    rw [runC_go]
    have r1' : den pg l81_1 [(0, .yl (c + 3)), (1, .ref (c + 2) 0), (3, .i .i64 1)] (HD ++ [.loop (L20 c (c + 1))]) = some ⟨.exit 0, e, H'⟩ := r1
    simp [d81, c81, zipE, go_nil, go_last, go_past, go_pastR, go_blkN, go_blkR, go_blkE, go_skip, go_exit, go_ret, go_scope, go_seq, go_reg, go_regd, go_opdN, go_opd, go_opdG, grdd_b, grdd_u, stpd_some, find_some, go_block, go_cond, cnd_b, go_opsN, go_ops, go_opsG, grd_b, grd_u, stp_some, fin_some, up_some, cont_some, k_call, k_mv, k_pick, k_bin, k_eqB, k_eqA, k_not, k_neg, k_conv, k_alloc, k_boxA, k_boxI, k_boxB, k_boxN, k_boxBs, k_ldR, k_ldA, k_ldI, k_ldB, k_stA, k_stI, k_stB, ldC_some, stC_some, k_mkfn, k_slc, k_slcA, k_ixA, k_ixBs, k_ixSl, k_fadr, k_fld, k_ext, k_len, k_app, k_mn, k_mx, k_nilck, k_build, k_bsl1, k_bsl2, b_add, b_sub, b_mul, b_eql, b_neq, b_lss, b_leq, b_gtr, b_geq, Dn.setLast, Dn.getLast, evalO, mapO, Dn.get, putE, keepE, TV.one, TV.isAgg, Dn.part, go_denK (c := l81_1) rfl, r1']
  have hb58 : bodyRun pg (den pg) 58 [.ref M 0] HC = some (.fn 81 [] [.ref (c + 2) 0], HD) := by
    refine body_of (x := .ret) (e := [(2, .fn 81 [] [.ref (c + 2) 0])]) hd58 rfl ?_ (.inl rfl) rfl
    have hbx : dkc pg (den pg) (.box false) [.ref M 0] HC = some (.ref HC.length 0, HC ++ [.cells [.ref M 0] false]) := k_box _ _ rfl
    rw [← hD, lC] at hbx
    simp [d58, c58, zipE, go_nil, go_last, go_past, go_pastR, go_blkN, go_blkR, go_blkE, go_skip, go_exit, go_ret, go_scope, go_seq, go_reg, go_regd, go_opdN, go_opd, go_opdG, grdd_b, grdd_u, stpd_some, find_some, go_block, go_cond, cnd_b, go_opsN, go_ops, go_opsG, grd_b, grd_u, stp_some, fin_some, up_some, cont_some, k_call, k_mv, k_pick, k_bin, k_eqB, k_eqA, k_not, k_neg, k_conv, k_alloc, k_boxA, k_boxI, k_boxB, k_boxN, k_boxBs, k_ldR, k_ldA, k_ldI, k_ldB, k_stA, k_stI, k_stB, ldC_some, stC_some, k_mkfn, k_slc, k_slcA, k_ixA, k_ixBs, k_ixSl, k_fadr, k_fld, k_ext, k_len, k_app, k_mn, k_mx, k_nilck, k_build, k_bsl1, k_bsl2, b_add, b_sub, b_mul, b_eql, b_neq, b_lss, b_leq, b_gtr, b_geq, Dn.setLast, Dn.getLast, evalO, mapO, Dn.get, putE, keepE, TV.one, TV.isAgg, Dn.part, hbx]
  have hK := fun K => go_rfunc (pg := pg) (K := K) (f := .t 19) (ps := [20]) (as_ := a20_0) (bd := b20_1) (ks := [4, 6]) (e := [(4, .ref c 0), (6, .ref (c + 1) 0), (19, .fn 81 [] [.ref (c + 2) 0])]) (H := HD) (fv := .fn 81 [] [.ref (c + 2) 0]) (r := .tup []) (L := L20 c (c + 1)) (H2 := H') rfl (by rw [sh_fn, lD]; exact hb81) (by rw [lD]; exact r2.hlp) (by simp [L20])
  rw [lD] at hK
  obtain ⟨HF, hHF⟩ : ∃ HF, HF = H'.set (c + 3) (.loop { L20 c (c + 1) with st := .exhausted }) := ⟨_, rfl⟩
  rw [← hHF] at hK
  obtain ⟨best, b1, b2, b3⟩ := r2.hd
  have hbest := ld_box (pg := pg) (R := den pg) (H := HF) (id := c + 1) (t := best) (by rw [hHF, List.getElem?_set_ne (by omega)]; exact b1) (Own_one b2).2.1
  have lcC := ld_box (pg := pg) (R := den pg) (H := HC) (id := c) (t := .ref M 0) (by rw [hC, List.getElem?_append_left (by omega), hB, hc]; exact getLast _ _) rfl
  have hlp := (List.getElem?_eq_some_iff.1 r2.hlp).1
  refine ⟨best, HF, body_ofs (x := .ret) (e := [(2, best), (3, .i .i64 0)]) (vs := [best, .i .i64 0]) hd rfl ?_ (.inl rfl) rfl, by rw [hHF]; simp; omega, fun j hj => by rw [hHF, List.getElem?_set_ne (by omega)]; exact r2.old j (by omega),
    b2.mono fun id hid => by rw [hHF, List.getElem?_set_ne (by have := b3 id hid; omega)], fun id hid => by have := b3 id hid; omega⟩
  simp [d20, c20, zipE, go_nil, go_last, go_past, go_pastR, go_blkN, go_blkR, go_blkE, go_skip, go_exit, go_ret, go_scope, go_seq, go_reg, go_regd, go_opdN, go_opd, go_opdG, grdd_b, grdd_u, stpd_some, find_some, go_block, go_cond, cnd_b, go_opsN, go_ops, go_opsG, grd_b, grd_u, stp_some, fin_some, up_some, cont_some, k_call, k_mv, k_pick, k_bin, k_eqB, k_eqA, k_not, k_neg, k_conv, k_alloc, k_boxA, k_boxI, k_boxB, k_boxN, k_boxBs, k_ldR, k_ldA, k_ldI, k_ldB, k_stA, k_stI, k_stB, ldC_some, stC_some, k_mkfn, k_slc, k_slcA, k_ixA, k_ixBs, k_ixSl, k_fadr, k_fld, k_ext, k_len, k_app, k_mn, k_mx, k_nilck, k_build, k_bsl1, k_bsl2, b_add, b_sub, b_mul, b_eql, b_neq, b_lss, b_leq, b_gtr, b_geq, Dn.setLast, Dn.getLast, evalO, mapO, Dn.get, putE, keepE, TV.one, TV.isAgg, Dn.part, sh_fn, h1, ← hc, stC, lB, ← hC, lcC, hb58, hK, hbest, L20]

end Go.Proofs.Tryd.Dn

/-
  Some of the observations: rings of them are rings of a set.
-/

namespace Go.Proofs.Tryd.Dn
open Go.Dn

def sub (X : List Obs) (l : List Nat) : List Obs := l.map fun i => X.getD i ([], [])

theorem sub_len (X : List Obs) (l : List Nat) : (sub X l).length = l.length := by simp [sub]
theorem sub_get {X : List Obs} {l : List Nat} {i : Nat} (hi : i < l.length) : (sub X l)[i]? = some (X.getD l[i] ([], [])) := by
  simp [sub, hi]

theorem getD_obs {X : List Obs} {i : Nat} (h : i < X.length) : X[i]? = some (X.getD i ([], [])) := by
  rw [List.getD, List.getElem?_eq_getElem h]; rfl

theorem sub_cost {X : List Obs} {l : List Nat} (hb : ∀ x ∈ l, x < X.length) {i k : Nat} (hi : i < l.length) (hk : k < l.length) : costOf (sub X l) i k = costOf X l[i] l[k] := by
  unfold costOf
  rw [sub_get hi, sub_get hk, getD_obs (hb _ (List.getElem_mem hi)), getD_obs (hb _ (List.getElem_mem hk))]

theorem sub_pref {X : List Obs} {l : List Nat} (hb : ∀ x ∈ l, x < X.length) {a b : Int} {i k : Nat} (hi : i < l.length) (hk : k < l.length) : pref (sub X l) a b i k = pref X a b l[i] l[k] := by
  unfold pref
  rw [sub_cost hb hi hk, sub_cost hb hi hi]

theorem sub_market {X : List Obs} {g : Nat} (hm : Market X g) {l : List Nat} (hn : l.Nodup) (hb : ∀ x ∈ l, x < X.length) (hne : l ≠ []) : Market (sub X l) g where
  n1 := by rw [sub_len]; cases l <;> simp_all
  n5 := by rw [sub_len]; have := nodup_len X.length l hn hb; have := hm.n5; omega
  g1 := hm.g1
  g3 := hm.g3
  ok x hx := by
    obtain ⟨i, hi, rfl⟩ := List.mem_map.1 hx
    have h := getD_obs (hb i hi)
    exact hm.ok _ (List.mem_of_getElem? h)

structure IsSet (X : List Obs) (l : List Nat) (s : Nat) : Prop where
  nodup : l.Nodup
  lt : ∀ x ∈ l, x < X.length
  bit : ∀ x, x < X.length → (s.testBit x = true ↔ x ∈ l)

theorem sub_edge {X : List Obs} {l : List Nat} {s : Nat} (h : IsSet X l s) {a b : Int} {i k : Nat} (hi : i < l.length) (hk : k < l.length) : wE (sub X l) (2 ^ (sub X l).length - 1) a b i k = wE X s a b l[i] l[k] := by
  have h1 := h.lt _ (List.getElem_mem hi)
  have h2 := h.lt _ (List.getElem_mem hk)
  have h3 := (h.bit _ h2).2 (List.getElem_mem hk)
  unfold wE
  rw [sub_pref h.lt hi hk, all_bits, sub_len]
  simp [hi, hk, h1, h2, h3]

theorem sub_rch {X : List Obs} {l : List Nat} {s : Nat} (h : IsSet X l s) {a b : Int} {i : Nat} (hi : i < l.length) {k : Nat} (hr : Rch (wE (sub X l) (2 ^ (sub X l).length - 1) a b) i k) : ∃ hk : k < l.length, Rch (wE X s a b) l[i] l[k] := by
  induction hr with
  | here => exact ⟨hi, .here⟩
  | @step x y hx he ih =>
    obtain ⟨hxl, hrx⟩ := ih
    have hy : y < l.length := by
      have := he
      simp only [wE, Bool.and_eq_true, decide_eq_true_eq, sub_len] at this
      exact this.1.1.2
    rw [sub_edge h hxl hy] at he
    exact ⟨hy, .step hrx he⟩

theorem rch_sub {X : List Obs} {l : List Nat} {s : Nat} (h : IsSet X l s) {a b : Int} {i : Nat} (hi : i < l.length) {z : Nat} (hr : Rch (wE X s a b) l[i] z) : ∃ k, ∃ hk : k < l.length, l[k] = z ∧ Rch (wE (sub X l) (2 ^ (sub X l).length - 1) a b) i k := by
  induction hr with
  | here => exact ⟨i, hi, rfl, .here⟩
  | @step x y hx he ih =>
    obtain ⟨k, hk, e, hrx⟩ := ih
    have hy : y < X.length ∧ s.testBit y = true := by
      have := he
      simp only [wE, Bool.and_eq_true, decide_eq_true_eq] at this
      exact ⟨this.1.1.2, this.1.2⟩
    obtain ⟨j, hj, ej⟩ := List.getElem_of_mem ((h.bit y hy.1).1 hy.2)
    refine ⟨j, hj, ej, .step hrx ?_⟩
    rw [sub_edge h hk hj, e, ej]
    exact he

theorem sub_ring {X : List Obs} {l : List Nat} {s : Nat} (h : IsSet X l s) {a b : Int} : (∃ i k, Pair (sub X l) (2 ^ (sub X l).length - 1) a b i k) ↔ ∃ i k, Pair X s a b i k := by
  constructor
  · rintro ⟨i, k, hne, hi, hk, _, _, hp, hr⟩
    rw [sub_len] at hi hk
    obtain ⟨_, hr'⟩ := sub_rch h hk hr
    have h1 := h.lt _ (List.getElem_mem hi)
    have h2 := h.lt _ (List.getElem_mem hk)
    refine ⟨l[i], l[k], ?_, h1, h2, (h.bit _ h1).2 (List.getElem_mem hi), (h.bit _ h2).2 (List.getElem_mem hk), ?_, hr'⟩
    · intro he; exact hne ((List.getElem_inj h.nodup).1 he)
    · rw [← sub_pref h.lt hi hk]; exact hp
  · rintro ⟨x, y, hne, hx, hy, bx, bby, hp, hr⟩
    obtain ⟨i, hi, rfl⟩ := List.getElem_of_mem ((h.bit x hx).1 bx)
    obtain ⟨k, hk, rfl⟩ := List.getElem_of_mem ((h.bit y hy).1 bby)
    obtain ⟨j, hj, ej, hr'⟩ := rch_sub h hk hr
    have : j = i := (List.getElem_inj h.nodup).1 ej
    subst this
    refine ⟨j, k, fun he => hne (by subst he; rfl), by rw [sub_len]; exact hi, by rw [sub_len]; exact hk, ?_, ?_, ?_, hr'⟩
    · rw [all_bits, sub_len]; simpa using hi
    · rw [all_bits, sub_len]; simpa using hk
    · rw [sub_pref h.lt hi hk]; exact hp

theorem bits_set {X : List Obs} (hn : X.length ≤ 5) {s : Nat} (hs : s < 2 ^ X.length) : IsSet X (bitsOf s) s where
  nodup := by unfold bitsOf; exact List.Pairwise.filter _ List.nodup_range
  lt x hx := by
    have h32 : s < 32 := by have : 2 ^ X.length ≤ 2 ^ 5 := Nat.pow_le_pow_right (by decide) hn; omega
    have hb := (bitsOf_mem h32).1 hx
    apply Classical.byContradiction
    intro hx'
    rw [Nat.testBit_lt_two_pow (Nat.lt_of_lt_of_le hs (Nat.pow_le_pow_right (by decide) (by omega)))] at hb
    cases hb
  bit x hx := by
    have h32 : s < 32 := by have : 2 ^ X.length ≤ 2 ^ 5 := Nat.pow_le_pow_right (by decide) hn; omega
    exact (bitsOf_mem h32).symm

theorem bits_ne {s : Nat} (h0 : 0 < s) (h : s < 32) : bitsOf s ≠ [] := by
  have key : ((List.range 32).all fun s => s == 0 || !(bitsOf s).isEmpty) = true := by decide
  have := List.all_eq_true.1 key s (List.mem_range.2 h)
  intro he
  rw [he] at this
  simp at this
  omega

theorem bits_filter {n s : Nat} (hn : n ≤ 5) (hs : s < 2 ^ n) : (List.range n).filter (fun i => s.testBit i) = bitsOf s := by
  unfold bitsOf
  obtain ⟨m, hm⟩ : ∃ m, 5 = n + m := ⟨5 - n, by omega⟩
  rw [hm, List.range_add, List.filter_append]
  have h0 : ((List.range m).map (fun x => n + x)).filter (fun i => s.testBit i) = [] := by
    rw [List.filter_eq_nil_iff]
    intro x hx
    obtain ⟨j, _, rfl⟩ := List.mem_map.1 hx
    rw [Nat.testBit_lt_two_pow (Nat.lt_of_lt_of_le hs (Nat.pow_le_pow_right (by decide) (by omega)))]
    decide
  rw [h0, List.append_nil]

end Go.Proofs.Tryd.Dn

/-
  Most observations of one taste: the reference's.
-/

namespace Go.Proofs.Tryd.Dn
open Go.Dn

theorem l66_all {pg : Pg} {X : List Obs} {T : TV} (hT : ∀ H, (elS true).View H T X) {x : TV} {l : List Nat} (hl : ∀ i ∈ l, i < X.length) (hll : l.length ≤ 1000) {H0 : Heap} (hx : elI.Own H0 x (nI l)) : ∀ (d i : Nat) (R : TV) (m : List Obs) (H : Heap), i + d = l.length → RowG (elS true) H0.length H0 H R m → m.length = i →
    ∃ e R' H', den pg l66_1 [(0, T), (1, x), (5, R), (6, .i .i64 (i : Int))] H = some ⟨.exit 0, e, H'⟩ ∧ Dn.get e 5 = some R' ∧ RowG (elS true) H0.length H0 H' R' (m ++ sub X (l.drop i))
  | 0, i, R, m, H, h, hr, hml => by
    have e1 : ¬ ((i : Int) < (l.length : Int)) := by omega
    have hxv := (hx.mono (H' := H) fun id hid => hr.old id (hx.lt id hid)).view
    have hlen := hxv.lenK H
    rw [nI_len] at hlen
    refine ⟨[(0, T), (1, x), (5, R), (6, .i .i64 (i : Int)), (10, .b false)], R, H, ?_, rfl, ?_⟩
    · rw [l66_1, den_loop]
      simp [b66_0, go_nil, go_last, go_past, go_pastR, go_blkN, go_blkR, go_blkE, go_skip, go_exit, go_ret, go_scope, go_seq, go_reg, go_regd, go_opdN, go_opd, go_opdG, grdd_b, grdd_u, stpd_some, find_some, go_block, go_cond, cnd_b, go_opsN, go_ops, go_opsG, grd_b, grd_u, stp_some, fin_some, up_some, cont_some, k_call, k_mv, k_pick, k_bin, k_eqB, k_eqA, k_not, k_neg, k_conv, k_alloc, k_boxA, k_boxI, k_boxB, k_boxN, k_boxBs, k_ldR, k_ldA, k_ldI, k_ldB, k_stA, k_stI, k_stB, ldC_some, stC_some, k_mkfn, k_slc, k_slcA, k_ixA, k_ixBs, k_ixSl, k_fadr, k_fld, k_ext, k_len, k_app, k_mn, k_mx, k_nilck, k_build, k_bsl1, k_bsl2, b_add, b_sub, b_mul, b_eql, b_neq, b_lss, b_leq, b_gtr, b_geq, Dn.setLast, Dn.getLast, evalO, mapO, Dn.get, putE, keepE, TV.one, TV.isAgg, Dn.part, hlen, e1]
    · rw [List.drop_eq_nil_of_le (by omega)]; simpa [sub] using hr
  | d + 1, i, R, m, H, h, hr, hml => by
    have hi : i < l.length := by omega
    have e1 : ((i : Int) < (l.length : Int)) := by omega
    have e2 : wrapR .i64 ((i : Int) + 1) = .i .i64 ((i : Int) + 1) := wrapR_i64 (by omega)
    have hxv := (hx.mono (H' := H) fun id hid => hr.old id (hx.lt id hid)).view
    have hlen := hxv.lenK H
    rw [nI_len] at hlen
    have hj := hl _ (List.getElem_mem hi)
    obtain ⟨p, hp, hv⟩ := ixI (pg := pg) (R := den pg) hxv (i := i) (x := (l[i] : Int)) (by simp [nI, hi])
    obtain ⟨q, hq, hat, _⟩ := (hT H).ix (pg := pg) (R := den pg) (getD_obs hj) .i64
    have hld := hat.ld (pg := pg) (R := den pg)
    have hq' : dkc pg (den pg) (.ixS 2 true) [T, .i .i64 (l[i] : Int)] H = some (q, H) := hq
    have hld' : dkc pg (den pg) (.ld 2 true) [q] H = some (.agg [elI.lt true (X.getD l[i] ([], [])).1, elI.lt true (X.getD l[i] ([], [])).2], H) := hld
    have kb := k_bslP (pg := pg) (R := den pg) (SV.one (.lt true (X.getD l[i] ([], [])).1)) (SV.one (.lt true (X.getD l[i] ([], [])).2)) H
    obtain ⟨R', H', h1, h2⟩ := hr.push (X.getD l[i] ([], [])) (bytes := 48) (by omega)
    have h1' : appRun 2 true 48 R (.sl H.length 0 2 true 1 (some 1)) (H ++ [.cells [elI.lt true (X.getD l[i] ([], [])).1, elI.lt true (X.getD l[i] ([], [])).2] false]) = some (R', H') := h1
    obtain ⟨e, R2, H2, h3, h4, h5⟩ := l66_all (pg := pg) hT hl hll hx d (i + 1) R' _ H' (by omega) h2 (by simp; omega)
    refine ⟨e, R2, H2, Eq.trans ?_ h3, h4, ?_⟩
    · generalize (l[i] : Int) = li at *
      generalize elI.lt true (X.getD l[i] ([], [])).1 = v1 at *
      generalize elI.lt true (X.getD l[i] ([], [])).2 = v2 at *
      rw [l66_1, den_loop]
      simp [l66_1, b66_0, go_nil, go_last, go_past, go_pastR, go_blkN, go_blkR, go_blkE, go_skip, go_exit, go_ret, go_scope, go_seq, go_reg, go_regd, go_opdN, go_opd, go_opdG, grdd_b, grdd_u, stpd_some, find_some, go_block, go_cond, cnd_b, go_opsN, go_ops, go_opsG, grd_b, grd_u, stp_some, fin_some, up_some, cont_some, k_call, k_mv, k_pick, k_bin, k_eqB, k_eqA, k_not, k_neg, k_conv, k_alloc, k_boxA, k_boxI, k_boxB, k_boxN, k_boxBs, k_ldR, k_ldA, k_ldI, k_ldB, k_stA, k_stI, k_stB, ldC_some, stC_some, k_mkfn, k_slc, k_slcA, k_ixA, k_ixBs, k_ixSl, k_fadr, k_fld, k_ext, k_len, k_app, k_mn, k_mx, k_nilck, k_build, k_bsl1, k_bsl2, b_add, b_sub, b_mul, b_eql, b_neq, b_lss, b_leq, b_gtr, b_geq, Dn.setLast, Dn.getLast, evalO, mapO, Dn.get, putE, keepE, TV.one, TV.isAgg, Dn.part, hlen, e1, e2, hp, hv, hq', hld', kb, h1']
    · rw [List.drop_eq_getElem_cons hi, show sub X (l[i] :: l.drop (i + 1)) = X.getD l[i] ([], []) :: sub X (l.drop (i + 1)) from rfl]
      rw [List.append_assoc] at h5
      exact h5

theorem body66 {pg : Pg} (hF : Free pg) {X : List Obs} {T : TV} (hT : ∀ H, (elS true).View H T X) {x : TV} {l : List Nat} (hl : ∀ i ∈ l, i < X.length) (hll : l.length ≤ 1000) {H : Heap} (hx : elI.Own H x (nI l)) :
    ∃ out H', bodyRun pg (den pg) 66 [T, x] H = some (out, H') ∧ RowG (elS true) H.length H H' out (sub X l) := by
  obtain ⟨e, R, H', h1, h2, h3⟩ := l66_all (pg := pg) hT hl hll hx l.length 0 .nilsl [] H (by omega) (RowG.nil H) rfl
  simp only [Int.natCast_zero] at h1
  rw [List.nil_append, List.drop_zero] at h3
  refine ⟨R, H', body_of (x := .ret) (e := [(4, R)]) (d := d66) (by rw [hF.F]; rfl) rfl ?_ (.inl rfl) rfl, h3⟩
  simp [d66, c66, zipE, go_nil, go_last, go_past, go_pastR, go_blkN, go_blkR, go_blkE, go_skip, go_exit, go_ret, go_scope, go_seq, go_reg, go_regd, go_opdN, go_opd, go_opdG, grdd_b, grdd_u, stpd_some, find_some, go_block, go_cond, cnd_b, go_opsN, go_ops, go_opsG, grd_b, grd_u, stp_some, fin_some, up_some, cont_some, k_call, k_mv, k_pick, k_bin, k_eqB, k_eqA, k_not, k_neg, k_conv, k_alloc, k_boxA, k_boxI, k_boxB, k_boxN, k_boxBs, k_ldR, k_ldA, k_ldI, k_ldB, k_stA, k_stI, k_stB, ldC_some, stC_some, k_mkfn, k_slc, k_slcA, k_ixA, k_ixBs, k_ixSl, k_fadr, k_fld, k_ext, k_len, k_app, k_mn, k_mx, k_nilck, k_build, k_bsl1, k_bsl2, b_add, b_sub, b_mul, b_eql, b_neq, b_lss, b_leq, b_gtr, b_geq, Dn.setLast, Dn.getLast, evalO, mapO, Dn.get, putE, keepE, TV.one, TV.isAgg, Dn.part, go_denK (c := l66_1) rfl, h1, h2]

theorem shr_i {s k : Nat} (hk : k ≤ 60) : binI .shr (.i .i64 (s : Int)) (.i .i64 (k : Int)) = some (.i .i64 ((s / 2 ^ k : Nat) : Int)) := by
  have h0 : ¬ ((k : Int) < 0) := by omega
  have h1 : min k 64 = k := by omega
  have h2 : (0 : Int) ≤ 2 ^ k := Int.le_of_lt (Int.pow_pos (by decide))
  simp [binI, h1, IntKind.bits, Int.fdiv_eq_ediv_of_nonneg _ h2]

theorem l23_1_all {pg : Pg} {X : List Obs} (hn5 : X.length ≤ 5) {bt : TV} {s : Nat} (hs : s < 65536) {base : Nat} {H0 : Heap} : ∀ (d i : Nat) (R : TV) (m : List Int) (H : Heap), i + d = X.length → RowInv base H0 H R m → m.length ≤ i →
    ∃ e R' H', den pg l23_1 [(0, (elS true).lt true X), (3, bt), (4, .i .i64 (s : Int)), (5, R), (6, .i .i64 (i : Int))] H = some ⟨.exit 2, e, H'⟩ ∧
      keepE [0, 3, 4, 5] e = [(0, (elS true).lt true X), (3, bt), (4, .i .i64 (s : Int)), (5, R')] ∧ RowInv base H0 H' R' (m ++ nI (((List.range X.length).drop i).filter fun i => s.testBit i))
  | 0, i, R, m, H, h, hr, hml => by
    have e1 : ¬ ((i : Int) < (X.length : Int)) := by omega
    have hlen := El.lt_len (E := elS true) true X
    refine ⟨[(0, (elS true).lt true X), (3, bt), (4, .i .i64 (s : Int)), (5, R), (6, .i .i64 (i : Int)), (17, .b false)], R, H, ?_, rfl, by rw [List.drop_eq_nil_of_le (by simp; omega)]; simpa [nI] using hr⟩
    rw [l23_1, den_loop]
    simp [b23_0, go_nil, go_last, go_past, go_pastR, go_blkN, go_blkR, go_blkE, go_skip, go_exit, go_ret, go_scope, go_seq, go_reg, go_regd, go_opdN, go_opd, go_opdG, grdd_b, grdd_u, stpd_some, find_some, go_block, go_cond, cnd_b, go_opsN, go_ops, go_opsG, grd_b, grd_u, stp_some, fin_some, up_some, cont_some, k_call, k_mv, k_pick, k_bin, k_eqB, k_eqA, k_not, k_neg, k_conv, k_alloc, k_boxA, k_boxI, k_boxB, k_boxN, k_boxBs, k_ldR, k_ldA, k_ldI, k_ldB, k_stA, k_stI, k_stB, ldC_some, stC_some, k_mkfn, k_slc, k_slcA, k_ixA, k_ixBs, k_ixSl, k_fadr, k_fld, k_ext, k_len, k_app, k_mn, k_mx, k_nilck, k_build, k_bsl1, k_bsl2, b_add, b_sub, b_mul, b_eql, b_neq, b_lss, b_leq, b_gtr, b_geq, Dn.setLast, Dn.getLast, evalO, mapO, Dn.get, putE, keepE, TV.one, TV.isAgg, Dn.part, hlen, e1]
  | d + 1, i, R, m, H, h, hr, hml => by
    have hi : i < X.length := by omega
    have e1 : ((i : Int) < (X.length : Int)) := by omega
    have e2 : wrapR .i64 ((i : Int) + 1) = .i .i64 ((i : Int) + 1) := wrapR_i64 (by omega)
    have hlen := El.lt_len (E := elS true) true X
    have b1 := shr_i (s := s) (k := i) (by omega)
    have b2 : binI .rem (.i .i64 ((s / 2 ^ i : Nat) : Int)) (.i .i64 2) = some (.i .i64 (bitV s i)) := by
      rw [show (2 : Int) = ((2 : Nat) : Int) from rfl, rem_nat (by omega)]
      congr 2
      unfold bitV
      rw [Nat.testBit_eq_decide_div_mod_eq]
      by_cases h : s / 2 ^ i % 2 = 1
      · simp only [h, decide_true, if_true]; rfl
      · simp only [h, decide_false, Bool.false_eq_true, if_false]; omega
    rw [range_drop hi, List.filter_cons]
    generalize ((s / 2 ^ i : Nat) : Int) = sh at b1 b2
    cases hb : s.testBit i with
    | false =>
      have hv : bitV s i = 0 := by unfold bitV; rw [hb]; rfl
      rw [hv] at b2
      obtain ⟨e, R2, H2, h3, h4, h5⟩ := l23_1_all (pg := pg) hn5 (bt := bt) hs d (i + 1) R m H (by omega) hr (by omega)
      refine ⟨e, R2, H2, Eq.trans ?_ h3, h4, by simpa using h5⟩
      rw [l23_1, den_loop]
      simp [l23_1, b23_0, go_nil, go_last, go_past, go_pastR, go_blkN, go_blkR, go_blkE, go_skip, go_exit, go_ret, go_scope, go_seq, go_reg, go_regd, go_opdN, go_opd, go_opdG, grdd_b, grdd_u, stpd_some, find_some, go_block, go_cond, cnd_b, go_opsN, go_ops, go_opsG, grd_b, grd_u, stp_some, fin_some, up_some, cont_some, k_call, k_mv, k_pick, k_bin, k_eqB, k_eqA, k_not, k_neg, k_conv, k_alloc, k_boxA, k_boxI, k_boxB, k_boxN, k_boxBs, k_ldR, k_ldA, k_ldI, k_ldB, k_stA, k_stI, k_stB, ldC_some, stC_some, k_mkfn, k_slc, k_slcA, k_ixA, k_ixBs, k_ixSl, k_fadr, k_fld, k_ext, k_len, k_app, k_mn, k_mx, k_nilck, k_build, k_bsl1, k_bsl2, b_add, b_sub, b_mul, b_eql, b_neq, b_lss, b_leq, b_gtr, b_geq, Dn.setLast, Dn.getLast, evalO, mapO, Dn.get, putE, keepE, TV.one, TV.isAgg, Dn.part, hlen, e1, e2, b1, b2]
    | true =>
      have hv : bitV s i = 1 := by unfold bitV; rw [hb]; rfl
      rw [hv] at b2
      obtain ⟨R', H', h1, h2⟩ := hr.push (i : Int) (by omega)
      obtain ⟨e, R2, H2, h3, h4, h5⟩ := l23_1_all (pg := pg) hn5 (bt := bt) hs d (i + 1) R' _ H' (by omega) h2 (by simp; omega)
      refine ⟨e, R2, H2, Eq.trans ?_ h3, h4, by simpa [nI] using h5⟩
      rw [l23_1, den_loop]
      simp [l23_1, b23_0, go_nil, go_last, go_past, go_pastR, go_blkN, go_blkR, go_blkE, go_skip, go_exit, go_ret, go_scope, go_seq, go_reg, go_regd, go_opdN, go_opd, go_opdG, grdd_b, grdd_u, stpd_some, find_some, go_block, go_cond, cnd_b, go_opsN, go_ops, go_opsG, grd_b, grd_u, stp_some, fin_some, up_some, cont_some, k_call, k_mv, k_pick, k_bin, k_eqB, k_eqA, k_not, k_neg, k_conv, k_alloc, k_boxA, k_boxI, k_boxB, k_boxN, k_boxBs, k_ldR, k_ldA, k_ldI, k_ldB, k_stA, k_stI, k_stB, ldC_some, stC_some, k_mkfn, k_slc, k_slcA, k_ixA, k_ixBs, k_ixSl, k_fadr, k_fld, k_ext, k_len, k_app, k_mn, k_mx, k_nilck, k_build, k_bsl1, k_bsl2, b_add, b_sub, b_mul, b_eql, b_neq, b_lss, b_leq, b_gtr, b_geq, Dn.setLast, Dn.getLast, evalO, mapO, Dn.get, putE, keepE, TV.one, TV.isAgg, Dn.part, hlen, e1, e2, b1, b2, h1]

theorem shl_1 {n : Nat} (hn : n ≤ 5) : binI .shl (.i .i64 1) (.i .i64 (n : Int)) = some (.i .i64 ((2 ^ n : Nat) : Int)) := by
  obtain ⟨p1, p2⟩ := pow5 hn
  have h0 : ¬ (n : Int) < 0 := by omega
  have h1 : min n 64 = n := by omega
  have h3 : wrapR .i64 (((2 ^ n : Nat) : Int)) = .i .i64 ((2 ^ n : Nat) : Int) := wrapR_i64 (by omega)
  rw [Int.natCast_pow] at h3
  simp [binI, h0, h1, IntKind.bits]
  exact h3

theorem l23_3_round {pg : Pg} (hF : Free pg) {X : List Obs} {g : Nat} (hm : Market X g) {s : Nat} (hs0 : 0 < s) (hs : s < 2 ^ X.length) {bt : TV} {bl : List Nat} (hbl : bl.length ≤ 5) {H : Heap} (hb : elI.Own H bt (nI bl)) :
    ∃ bt' H', den pg l23_3 [(0, (elS true).lt true X), (3, bt), (4, .i .i64 (s : Int))] H = den pg l23_3 [(0, (elS true).lt true X), (3, bt'), (4, .i .i64 ((s + 1 : Nat) : Int))] H' ∧ elI.Own H' bt' (nI (stepM X s bl)) := by
  have hn5 := hm.n5
  obtain ⟨p1, p2⟩ := pow5 hn5
  have hlen := El.lt_len (E := elS true) true X
  have hsh := shl_1 hn5
  have e1 : ((s : Int) < ((2 ^ X.length : Nat) : Int)) := by omega
  have e2 : wrapR .i64 ((s : Int) + 1) = .i .i64 ((s : Int) + 1) := wrapR_i64 (by omega)
  obtain ⟨e, R, H1, h1, h2, h3⟩ := l23_1_all (pg := pg) hn5 (bt := bt) (s := s) (by omega) X.length 0 .nilsl [] H (by omega) (RowInv.nil H) (by simp)
  rw [List.nil_append, List.drop_zero, bits_filter hn5 hs] at h3
  simp only [Int.natCast_zero] at h1
  have g0 := keep_get h2 (s := 0) (by simp) rfl
  have g3 := keep_get h2 (s := 3) (by simp) rfl
  have g4 := keep_get h2 (s := 4) (by simp) rfl
  have g5 := keep_get h2 (s := 5) (by simp) rfl
  have hset := bits_set hn5 hs
  have hbits := bitsOf_len s
  obtain ⟨out, H2, k1, k2⟩ := body66 hF (T := (elS true).lt true X) (fun H => El.lt_view _ _ _) hset.lt (by omega) h3.own
  have hY := sub_market hm hset.nodup hset.lt (bits_ne hs0 (by omega))
  have hsn : Dn.snap .borrow H2 9 out = some ((elS true).lt true (sub X (bitsOf s))) := El.Own.to (m := .borrow) (f := 8) (by decide) k2.own (E' := elS true) rfl (mapO_map fun a _ => snap_pair true H2 5 a)
  have c26 := PFn.call (fn26 hF hY (elS_RV true true (sub X (bitsOf s))) (a := 1) (b := 1) (by omega) (by omega)) (args := [out, .i .i64 1, .i .i64 1]) (ks := []) (fs := []) (cs := []) (H := H2) (by simp [snapArgs, hsn, sn_i])
  rw [prefs_tab] at c26
  obtain ⟨hr, c27, hr2⟩ := call27 hF hY.n5 false false (pref (sub X (bitsOf s)) 1 1)
  have c27' := c27 H2
  have hring : hr = true ↔ ringS X s := by
    rw [hr2, show ringS X s = ∃ i k, Pair X s 1 1 i k from rfl, ← sub_ring hset]
    constructor
    · rintro ⟨i, k, h⟩; exact ⟨i, k, pair_iff.2 h⟩
    · rintro ⟨i, k, h⟩; exact ⟨i, k, pair_iff.1 h⟩
  have oR : elI.Own H2 R (nI (bitsOf s)) := h3.own.mono fun id hid => k2.old id (h3.own.lt id hid)
  have oB : elI.Own H2 bt (nI bl) := hb.mono fun id hid => by
    have h5 := hb.lt id hid
    have h6 := h3.len
    rw [k2.old id (by omega), h3.old id h5]
  have lR := oR.view.lenK H2
  have lB := oB.view.lenK H2
  rw [nI_len] at lR lB
  generalize (elR false).lt false (tabl (sub X (bitsOf s)).length (pref (sub X (bitsOf s)) 1 1)) = PT at c26 c27'
  generalize ((2 ^ X.length : Nat) : Int) = Q at *
  by_cases q0 : ringS X s
  · have hhr := hring.2 q0
    subst hhr
    have hst : stepM X s bl = bl := by unfold stepM; rw [if_pos (.inr q0)]
    rw [hst]
    refine ⟨bt, H2, ?_, oB⟩
    rw [l23_3, den_loop]
    simp [l23_3, b23_2, go_nil, go_last, go_past, go_pastR, go_blkN, go_blkR, go_blkE, go_skip, go_exit, go_ret, go_scope, go_seq, go_reg, go_regd, go_opdN, go_opd, go_opdG, grdd_b, grdd_u, stpd_some, find_some, go_block, go_cond, cnd_b, go_opsN, go_ops, go_opsG, grd_b, grd_u, stp_some, fin_some, up_some, cont_some, k_call, k_mv, k_pick, k_bin, k_eqB, k_eqA, k_not, k_neg, k_conv, k_alloc, k_boxA, k_boxI, k_boxB, k_boxN, k_boxBs, k_ldR, k_ldA, k_ldI, k_ldB, k_stA, k_stI, k_stB, ldC_some, stC_some, k_mkfn, k_slc, k_slcA, k_ixA, k_ixBs, k_ixSl, k_fadr, k_fld, k_ext, k_len, k_app, k_mn, k_mx, k_nilck, k_build, k_bsl1, k_bsl2, b_add, b_sub, b_mul, b_eql, b_neq, b_lss, b_leq, b_gtr, b_geq, Dn.setLast, Dn.getLast, evalO, mapO, Dn.get, putE, keepE, TV.one, TV.isAgg, Dn.part, hlen, hsh, e1, e2, go_denK (c := l23_1) rfl, h1, g0, g3, g4, g5, sh_fn, k1, c26, c27']
  · have hhr : hr = false := by rw [Bool.eq_false_iff]; intro h; exact q0 (hring.1 h)
    subst hhr
    by_cases q1 : bl.length < (bitsOf s).length
    · have q1' : ((bl.length : Int) < ((bitsOf s).length : Int)) := by omega
      have hst : stepM X s bl = bitsOf s := by
        unfold stepM
        rw [if_neg (by rintro (h | h); omega; exact q0 h), if_pos (.inl q1)]
      rw [hst]
      refine ⟨R, H2, ?_, oR⟩
      rw [l23_3, den_loop]
      simp [l23_3, b23_2, go_nil, go_last, go_past, go_pastR, go_blkN, go_blkR, go_blkE, go_skip, go_exit, go_ret, go_scope, go_seq, go_reg, go_regd, go_opdN, go_opd, go_opdG, grdd_b, grdd_u, stpd_some, find_some, go_block, go_cond, cnd_b, go_opsN, go_ops, go_opsG, grd_b, grd_u, stp_some, fin_some, up_some, cont_some, k_call, k_mv, k_pick, k_bin, k_eqB, k_eqA, k_not, k_neg, k_conv, k_alloc, k_boxA, k_boxI, k_boxB, k_boxN, k_boxBs, k_ldR, k_ldA, k_ldI, k_ldB, k_stA, k_stI, k_stB, ldC_some, stC_some, k_mkfn, k_slc, k_slcA, k_ixA, k_ixBs, k_ixSl, k_fadr, k_fld, k_ext, k_len, k_app, k_mn, k_mx, k_nilck, k_build, k_bsl1, k_bsl2, b_add, b_sub, b_mul, b_eql, b_neq, b_lss, b_leq, b_gtr, b_geq, Dn.setLast, Dn.getLast, evalO, mapO, Dn.get, putE, keepE, TV.one, TV.isAgg, Dn.part, hlen, hsh, e1, e2, go_denK (c := l23_1) rfl, h1, g0, g3, g4, g5, sh_fn, k1, c26, c27', lR, lB, q1']
    · have q1' : ¬ ((bl.length : Int) < ((bitsOf s).length : Int)) := by omega
      by_cases q2 : (bitsOf s).length = bl.length
      · have q2' : (((bitsOf s).length : Int) == (bl.length : Int)) = true := by simp; omega
        have c67 := call67 hF (oR.snap elI_flat) (SV.lt true _) (oB.snap elI_flat) (SV.lt true _) (by rw [nI_len]; omega) (by rw [nI_len, nI_len]; exact q2)
        by_cases q3 : cmpL (nI (bitsOf s)) (nI bl) < 0
        · have hst : stepM X s bl = bitsOf s := by
            unfold stepM
            rw [if_neg (by rintro (h | h); omega; exact q0 h), if_pos (.inr q3)]
          rw [hst]
          refine ⟨R, H2, ?_, oR⟩
          have q3' : decide (cmpL (nI (bitsOf s)) (nI bl) < 0) = true := by simpa using q3
          rw [q3'] at c67
          rw [l23_3, den_loop]
          simp [-beq_iff_eq, l23_3, b23_2, go_nil, go_last, go_past, go_pastR, go_blkN, go_blkR, go_blkE, go_skip, go_exit, go_ret, go_scope, go_seq, go_reg, go_regd, go_opdN, go_opd, go_opdG, grdd_b, grdd_u, stpd_some, find_some, go_block, go_cond, cnd_b, go_opsN, go_ops, go_opsG, grd_b, grd_u, stp_some, fin_some, up_some, cont_some, k_call, k_mv, k_pick, k_bin, k_eqB, k_eqA, k_not, k_neg, k_conv, k_alloc, k_boxA, k_boxI, k_boxB, k_boxN, k_boxBs, k_ldR, k_ldA, k_ldI, k_ldB, k_stA, k_stI, k_stB, ldC_some, stC_some, k_mkfn, k_slc, k_slcA, k_ixA, k_ixBs, k_ixSl, k_fadr, k_fld, k_ext, k_len, k_app, k_mn, k_mx, k_nilck, k_build, k_bsl1, k_bsl2, b_add, b_sub, b_mul, b_eql, b_neq, b_lss, b_leq, b_gtr, b_geq, Dn.setLast, Dn.getLast, evalO, mapO, Dn.get, putE, keepE, TV.one, TV.isAgg, Dn.part, hlen, hsh, e1, e2, go_denK (c := l23_1) rfl, h1, g0, g3, g4, g5, sh_fn, k1, c26, c27', lR, lB, q1', q2', c67]
        · have hst : stepM X s bl = bl := by
            unfold stepM
            rw [if_neg (by rintro (h | h); omega; exact q0 h), if_neg (by rintro (h | h); omega; exact q3 h)]
          rw [hst]
          refine ⟨bt, H2, ?_, oB⟩
          have q3' : decide (cmpL (nI (bitsOf s)) (nI bl) < 0) = false := by simpa using q3
          rw [q3'] at c67
          rw [l23_3, den_loop]
          simp [-beq_iff_eq, l23_3, b23_2, go_nil, go_last, go_past, go_pastR, go_blkN, go_blkR, go_blkE, go_skip, go_exit, go_ret, go_scope, go_seq, go_reg, go_regd, go_opdN, go_opd, go_opdG, grdd_b, grdd_u, stpd_some, find_some, go_block, go_cond, cnd_b, go_opsN, go_ops, go_opsG, grd_b, grd_u, stp_some, fin_some, up_some, cont_some, k_call, k_mv, k_pick, k_bin, k_eqB, k_eqA, k_not, k_neg, k_conv, k_alloc, k_boxA, k_boxI, k_boxB, k_boxN, k_boxBs, k_ldR, k_ldA, k_ldI, k_ldB, k_stA, k_stI, k_stB, ldC_some, stC_some, k_mkfn, k_slc, k_slcA, k_ixA, k_ixBs, k_ixSl, k_fadr, k_fld, k_ext, k_len, k_app, k_mn, k_mx, k_nilck, k_build, k_bsl1, k_bsl2, b_add, b_sub, b_mul, b_eql, b_neq, b_lss, b_leq, b_gtr, b_geq, Dn.setLast, Dn.getLast, evalO, mapO, Dn.get, putE, keepE, TV.one, TV.isAgg, Dn.part, hlen, hsh, e1, e2, go_denK (c := l23_1) rfl, h1, g0, g3, g4, g5, sh_fn, k1, c26, c27', lR, lB, q1', q2', c67]
      · have q2' : (((bitsOf s).length : Int) == (bl.length : Int)) = false := by simp; omega
        have hst : stepM X s bl = bl := by
          unfold stepM
          rw [if_pos (.inl (by omega))]
        rw [hst]
        refine ⟨bt, H2, ?_, oB⟩
        rw [l23_3, den_loop]
        simp [-beq_iff_eq, l23_3, b23_2, go_nil, go_last, go_past, go_pastR, go_blkN, go_blkR, go_blkE, go_skip, go_exit, go_ret, go_scope, go_seq, go_reg, go_regd, go_opdN, go_opd, go_opdG, grdd_b, grdd_u, stpd_some, find_some, go_block, go_cond, cnd_b, go_opsN, go_ops, go_opsG, grd_b, grd_u, stp_some, fin_some, up_some, cont_some, k_call, k_mv, k_pick, k_bin, k_eqB, k_eqA, k_not, k_neg, k_conv, k_alloc, k_boxA, k_boxI, k_boxB, k_boxN, k_boxBs, k_ldR, k_ldA, k_ldI, k_ldB, k_stA, k_stI, k_stB, ldC_some, stC_some, k_mkfn, k_slc, k_slcA, k_ixA, k_ixBs, k_ixSl, k_fadr, k_fld, k_ext, k_len, k_app, k_mn, k_mx, k_nilck, k_build, k_bsl1, k_bsl2, b_add, b_sub, b_mul, b_eql, b_neq, b_lss, b_leq, b_gtr, b_geq, Dn.setLast, Dn.getLast, evalO, mapO, Dn.get, putE, keepE, TV.one, TV.isAgg, Dn.part, hlen, hsh, e1, e2, go_denK (c := l23_1) rfl, h1, g0, g3, g4, g5, sh_fn, k1, c26, c27', lR, lB, q1', q2']

theorem l23_3_all {pg : Pg} (hF : Free pg) {X : List Obs} {g : Nat} (hm : Market X g) : ∀ (k s : Nat) (bt : TV) (H : Heap), s + k + 1 = 2 ^ X.length → elI.Own H bt (nI (mostN X s)) →
    ∃ e bt' H', den pg l23_3 [(0, (elS true).lt true X), (3, bt), (4, .i .i64 ((s + 1 : Nat) : Int))] H = some ⟨.exit 0, e, H'⟩ ∧ Dn.get e 3 = some bt' ∧ elI.Own H' bt' (nI (mostN X (2 ^ X.length - 1)))
  | 0, s, bt, H, hk, hb => by
    have hn5 := hm.n5
    obtain ⟨p1, p2⟩ := pow5 hn5
    have hlen := El.lt_len (E := elS true) true X
    have hsh := shl_1 hn5
    have hs : 2 ^ X.length - 1 = s := by omega
    rw [hs]
    have e1 : ¬ (((s + 1 : Nat) : Int) < ((2 ^ X.length : Nat) : Int)) := by omega
    refine ⟨[(0, (elS true).lt true X), (3, bt), (4, .i .i64 ((s + 1 : Nat) : Int)), (11, .b false)], bt, H, ?_, rfl, hb⟩
    generalize ((s + 1 : Nat) : Int) = s1 at *
    generalize ((2 ^ X.length : Nat) : Int) = Q at *
    rw [l23_3, den_loop]
    simp [b23_2, go_nil, go_last, go_past, go_pastR, go_blkN, go_blkR, go_blkE, go_skip, go_exit, go_ret, go_scope, go_seq, go_reg, go_regd, go_opdN, go_opd, go_opdG, grdd_b, grdd_u, stpd_some, find_some, go_block, go_cond, cnd_b, go_opsN, go_ops, go_opsG, grd_b, grd_u, stp_some, fin_some, up_some, cont_some, k_call, k_mv, k_pick, k_bin, k_eqB, k_eqA, k_not, k_neg, k_conv, k_alloc, k_boxA, k_boxI, k_boxB, k_boxN, k_boxBs, k_ldR, k_ldA, k_ldI, k_ldB, k_stA, k_stI, k_stB, ldC_some, stC_some, k_mkfn, k_slc, k_slcA, k_ixA, k_ixBs, k_ixSl, k_fadr, k_fld, k_ext, k_len, k_app, k_mn, k_mx, k_nilck, k_build, k_bsl1, k_bsl2, b_add, b_sub, b_mul, b_eql, b_neq, b_lss, b_leq, b_gtr, b_geq, Dn.setLast, Dn.getLast, evalO, mapO, Dn.get, putE, keepE, TV.one, TV.isAgg, Dn.part, hlen, hsh, e1]
  | k + 1, s, bt, H, hk, hb => by
    obtain ⟨bt1, H1, h1, h2⟩ := l23_3_round hF hm (s := s + 1) (by omega) (by omega) (mostN_len X s) hb
    obtain ⟨e, bt', H', h3, h4, h5⟩ := l23_3_all hF hm k (s + 1) bt1 H1 (by omega) h2
    exact ⟨e, bt', H', h1.trans h3, h4, h5⟩

theorem call23 {pg : Pg} (hF : Free pg) {X : List Obs} {g : Nat} (hm : Market X g) (H : Heap) : callRun pg (den pg) (.pu []) [.fn 23 [] [], (elS false).lt false X] H = some (elI.lt false (nI (mostN X (2 ^ X.length - 1))), H) := by
  obtain ⟨p1, p2⟩ := pow5 hm.n5
  obtain ⟨e, bt, H', h1, h2, h3⟩ := l23_3_all hF hm (2 ^ X.length - 1) 0 .nilsl [] (by omega) (.inl ⟨rfl, rfl⟩)
  have h1' : den pg l23_3 [(0, (elS true).lt true X), (3, .nilsl), (4, .i .i64 1)] [] = some ⟨.exit 0, e, H'⟩ := h1
  refine PFn.call (xs := [(elS true).lt true X]) (.of_go (x := .ret) (e := [(2, bt)]) (H' := H') (vs := [bt]) (hF.S _ _ (by decide)) (d := d23) (by rw [hF.F]; rfl) rfl ?_ (.inl rfl) rfl (h3.fin elI_flat)) (args := [(elS false).lt false X]) (by simp [snapArgs, snZ])
  simp [d23, c23, zipE, go_nil, go_last, go_past, go_pastR, go_blkN, go_blkR, go_blkE, go_skip, go_exit, go_ret, go_scope, go_seq, go_reg, go_regd, go_opdN, go_opd, go_opdG, grdd_b, grdd_u, stpd_some, find_some, go_block, go_cond, cnd_b, go_opsN, go_ops, go_opsG, grd_b, grd_u, stp_some, fin_some, up_some, cont_some, k_call, k_mv, k_pick, k_bin, k_eqB, k_eqA, k_not, k_neg, k_conv, k_alloc, k_boxA, k_boxI, k_boxB, k_boxN, k_boxBs, k_ldR, k_ldA, k_ldI, k_ldB, k_stA, k_stI, k_stB, ldC_some, stC_some, k_mkfn, k_slc, k_slcA, k_ixA, k_ixBs, k_ixSl, k_fadr, k_fld, k_ext, k_len, k_app, k_mn, k_mx, k_nilck, k_build, k_bsl1, k_bsl2, b_add, b_sub, b_mul, b_eql, b_neq, b_lss, b_leq, b_gtr, b_geq, Dn.setLast, Dn.getLast, evalO, mapO, Dn.get, putE, keepE, TV.one, TV.isAgg, Dn.part, go_denK (c := l23_3) rfl, h1', h2]

end Go.Proofs.Tryd.Dn

