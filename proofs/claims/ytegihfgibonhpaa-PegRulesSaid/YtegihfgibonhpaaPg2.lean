/-
  Counting pegs: the reference's Size and OnesCount.
-/
import Derived.Test.YtegihfgibonhpaaPg
set_option linter.unusedSimpArgs false
set_option linter.unusedVariables false

namespace Go.Proofs.Try.Dn
open Go.Dn

/-- OnesCount64's steps -/
def ones (x : Nat) : Nat :=
  let y1 := (x / 2 &&& 6148914691236517205) + (x &&& 6148914691236517205)
  let y2 := (y1 / 4 &&& 3689348814741910323) + (y1 &&& 3689348814741910323)
  let y3 := (y2 / 16 + y2) &&& 1085102592571150095
  let y4 := y3 + y3 / 256
  let y5 := y4 + y4 / 65536
  let y6 := y5 + y5 / 4294967296
  y6 &&& 127

set_option maxRecDepth 100000 in
theorem ones_all : ((List.range 4096).all fun x => ones x == pegs x) = true := by kernel_rfl

theorem ones_pegs {x : Nat} (h : x < 4096) : ones x = pegs x := by
  have := List.all_eq_true.1 ones_all x (List.mem_range.2 h)
  simpa using this

theorem and_u {m c : Nat} (hm : m < 1000000) (hc : c < 2 ^ 64) : binI .and (.i .u64 (m : Int)) (.i .u64 (c : Int)) = some (.i .u64 ((m &&& c : Nat) : Int)) := by
  have h1 : (m &&& c) ≤ m := Nat.and_le_left
  have : ((BitVec.ofInt 64 (m : Int)) &&& (BitVec.ofInt 64 (c : Int))).toNat = m &&& c := by
    rw [ofInt_nat, ofInt_nat, BitVec.toNat_and]
    simp only [BitVec.toNat_ofNat]
    rw [Nat.mod_eq_of_lt (by omega : m < 2 ^ 64), Nat.mod_eq_of_lt hc]
  have h2 : wrapR .u64 ((m &&& c : Nat) : Int) = .i .u64 ((m &&& c : Nat) : Int) := by
    generalize m &&& c = z at h1
    unfold wrapR; simp [IntKind.wrap, IntKind.signed, IntKind.bits]; omega
  rw [show binI .and (.i .u64 (m : Int)) (.i .u64 (c : Int)) = some (wrapR .u64 ((BitVec.ofInt 64 (m : Int)) &&& (BitVec.ofInt 64 (c : Int))).toNat) from rfl, this, h2]

theorem shr_u {m : Nat} (c : Nat) (hc : c < 64) : binI .shr (.i .u64 (m : Int)) (.i .u64 (c : Int)) = some (.i .u64 ((m / 2 ^ c : Nat) : Int)) := by
  have h0 : ¬ ((c : Int) < 0) := by omega
  have h1 : min c 64 = c := by omega
  have h2 : (0 : Int) ≤ 2 ^ c := Int.le_of_lt (Int.pow_pos (by decide))
  simp [binI, h1, IntKind.bits, Int.fdiv_eq_ediv_of_nonneg _ h2]

theorem add_u {m c : Nat} (h : m + c < 1000000000) : wrapR .u64 ((m : Int) + (c : Int)) = .i .u64 ((m + c : Nat) : Int) := by
  unfold wrapR; simp [IntKind.wrap, IntKind.signed, IntKind.bits]; omega

theorem fn73 {pg : Pg} (hF : Free pg) {x : Nat} (hx : x < 4096) : Fn pg 73 [.i .u64 (x : Int)] (.i .i64 (pegs x : Int)) := by
  rw [← ones_pegs hx]
  have s1 := shr_u (m := x) 1 (by omega)
  have a1 := and_u (m := x / 2 ^ 1) (c := 6148914691236517205) (by omega) (by omega)
  have a1' := and_u (m := x) (c := 6148914691236517205) (by omega) (by omega)
  have l1 : (x / 2 ^ 1 &&& 6148914691236517205) ≤ x / 2 ^ 1 := Nat.and_le_left
  have l1' : (x &&& 6148914691236517205) ≤ x := Nat.and_le_left
  have hones : ones x = ones x := rfl
  unfold ones
  simp only [show x / 2 ^ 1 = x / 2 by omega] at s1 a1 l1
  generalize (x / 2 &&& 6148914691236517205) = u1 at a1 l1 ⊢
  generalize (x &&& 6148914691236517205) = v1 at a1' l1' ⊢
  have p1 := add_u (m := u1) (c := v1) (by omega)
  simp only
  generalize hy1 : u1 + v1 = y1 at p1 ⊢
  have s2 := shr_u (m := y1) 2 (by omega)
  simp only [show y1 / 2 ^ 2 = y1 / 4 by omega] at s2
  have a2 := and_u (m := y1 / 4) (c := 3689348814741910323) (by omega) (by omega)
  have a2' := and_u (m := y1) (c := 3689348814741910323) (by omega) (by omega)
  have l2 : (y1 / 4 &&& 3689348814741910323) ≤ y1 / 4 := Nat.and_le_left
  have l2' : (y1 &&& 3689348814741910323) ≤ y1 := Nat.and_le_left
  generalize (y1 / 4 &&& 3689348814741910323) = u2 at a2 l2 ⊢
  generalize (y1 &&& 3689348814741910323) = v2 at a2' l2' ⊢
  have p2 := add_u (m := u2) (c := v2) (by omega)
  generalize hy2 : u2 + v2 = y2 at p2 ⊢
  have s3 := shr_u (m := y2) 4 (by omega)
  simp only [show y2 / 2 ^ 4 = y2 / 16 by omega] at s3
  have p3 := add_u (m := y2 / 16) (c := y2) (by omega)
  have a3 := and_u (m := y2 / 16 + y2) (c := 1085102592571150095) (by omega) (by omega)
  have l3 : ((y2 / 16 + y2) &&& 1085102592571150095) ≤ y2 / 16 + y2 := Nat.and_le_left
  generalize ((y2 / 16 + y2) &&& 1085102592571150095) = y3 at a3 l3 ⊢
  have s4 := shr_u (m := y3) 8 (by omega)
  simp only [show y3 / 2 ^ 8 = y3 / 256 by omega] at s4
  have p4 := add_u (m := y3) (c := y3 / 256) (by omega)
  generalize hy4 : y3 + y3 / 256 = y4 at p4 ⊢
  have s5 := shr_u (m := y4) 16 (by omega)
  simp only [show y4 / 2 ^ 16 = y4 / 65536 by omega] at s5
  have p5 := add_u (m := y4) (c := y4 / 65536) (by omega)
  generalize hy5 : y4 + y4 / 65536 = y5 at p5 ⊢
  have s6 := shr_u (m := y5) 32 (by omega)
  simp only [show y5 / 2 ^ 32 = y5 / 4294967296 by omega] at s6
  have p6 := add_u (m := y5) (c := y5 / 4294967296) (by omega)
  generalize hy6 : y5 + y5 / 4294967296 = y6 at p6 ⊢
  have c6 : wrapR .i64 (y6 : Int) = .i .i64 (y6 : Int) := wrapR_i64 (by omega)
  have a7 := and_eq (m := y6) (k := 127) (by omega) (by omega)
  simp only [Int.cast_ofNat_Int] at s1 a1 a1' s2 a2 a2' s3 a3 s4 s5 s6 a7
  refine .of1 (x := .ret) (e := [(2, .i .i64 ((y6 &&& 127 : Nat) : Int))]) (H' := []) (hF.S _ _ (by decide)) (d := d73) (by rw [hF.F]; rfl) rfl ?_ (.inl rfl) rfl (by simp [sn_i, sn_b, sn_nil, sn8_i, sn8_b, sn8_nil, sn7_i, sn7_b, sn_sl, sn8_sl, slB_some, sn_tup, sn_agg, sn8_agg, mapO, elems])
  simp only [d73, c73, zipE]
  simp only [go_nil, go_pastR, go_seq, go_reg, go_opsN, go_ops, go_ret, stp_some, fin_some, up_some, k_mv, k_bin, k_conv, b_add, evalO, mapO, Dn.get, putE, keepE, Option.bind_some, Option.map_some, ↓reduceIte, Nat.reduceEqDiff, List.filterMap_cons, List.filterMap_nil, s1, a1, a1', p1, s2, a2, a2', p2, s3, p3, a3, s4, p4, s5, p5, s6, p6, c6, a7]

end Go.Proofs.Try.Dn

/-
  PegReached: sizes, lists compared, the least number of pegs.
-/

namespace Go.Proofs.Try.Dn
open Go.Dn

theorem fn53 {pg : Pg} (hF : Free pg) {x : Nat} (hx : x < 4096) : Fn pg 53 [.i .u64 (x : Int)] (.i .i64 (pegs x : Int)) := by
  have c73 := fun H => Fn.call (fn73 hF hx) (args := [.i .u64 (x : Int)]) (ks := []) (fs := []) (cs := []) (H := H) (by simp [snapArgs, sn_i])
  refine .of1 (x := .ret) (e := [(2, .i .i64 (pegs x : Int))]) (H' := []) (hF.S _ _ (by decide)) (d := d53) (by rw [hF.F]; rfl) rfl ?_ (.inl rfl) rfl (by simp [sn_i, sn_b, sn_nil, sn8_i, sn8_b, sn8_nil, sn7_i, sn7_b, sn_sl, sn8_sl, slB_some, sn_tup, sn_agg, sn8_agg, mapO, elems])
  simp [d53, c53, zipE, go_nil, go_last, go_past, go_pastR, go_blkN, go_blkR, go_blkE, go_skip, go_exit, go_ret, go_scope, go_seq, go_reg, go_block, go_cond, cnd_b, go_opsN, go_ops, go_opsG, grd_b, grd_u, stp_some, fin_some, up_some, cont_some, k_call, k_mv, k_pick, k_bin, k_eqB, k_eqA, k_not, k_neg, k_conv, k_alloc, k_boxA, k_boxI, k_boxB, k_boxN, k_boxBs, k_ldR, k_ldA, k_ldI, k_ldB, k_stA, k_stI, k_stB, ldC_some, stC_some, k_mkfn, k_slc, k_slcA, k_ixA, k_ixBs, k_ixSl, k_fadr, k_fld, k_ext, k_len, k_app, k_mn, k_mx, k_nilck, k_build, k_bsl1, k_bsl2, b_add, b_sub, b_mul, b_eql, b_neq, b_lss, b_leq, b_gtr, b_geq, Dn.setLast, Dn.getLast, evalO, mapO, Dn.get, putE, keepE, TV.one, TV.isAgg, Dn.part, c73]

def pegsFrom (i m : Nat) : Nat := (List.range' i (16 - i)).countP fun j => m.testBit j

theorem pegsFrom_zero (m : Nat) : pegsFrom 0 m = pegs m := by
  unfold pegsFrom pegs
  rw [← List.range_eq_range']

theorem pegsFrom_step {i m : Nat} (hi : i < 16) : pegsFrom i m = (if m.testBit i then 1 else 0) + pegsFrom (i + 1) m := by
  unfold pegsFrom
  rw [show 16 - i = (16 - (i + 1)) + 1 by omega, List.range'_succ, List.countP_cons]
  omega

theorem pegsFrom_none {i m : Nat} (h : m < 2 ^ i) : pegsFrom i m = 0 := by
  unfold pegsFrom
  rw [List.countP_eq_zero]
  intro j hj
  have := (List.mem_range'_1.1 hj).1
  rw [Nat.testBit_lt_two_pow (Nat.lt_of_lt_of_le h (Nat.pow_le_pow_right (by decide) this))]
  decide

theorem l23_all {pg : Pg} {m : Nat} (hm : m < 65536) : ∀ (f i acc : Nat) (H : Heap), i + f = 16 → acc ≤ i →
    ∃ e, den pg l23_1 [(0, .i .i64 (m : Int)), (3, .i .i64 (acc : Int)), (4, .i .i64 (i : Int))] H = some ⟨.exit 0, e, H⟩ ∧ get e 3 = some (.i .i64 ((acc + pegsFrom i m : Nat) : Int)) := by
  have stop : ∀ (i acc : Nat) (H : Heap), i ≤ 16 → m < 2 ^ i → ∃ e, den pg l23_1 [(0, .i .i64 (m : Int)), (3, .i .i64 (acc : Int)), (4, .i .i64 (i : Int))] H = some ⟨.exit 0, e, H⟩ ∧ get e 3 = some (.i .i64 ((acc + pegsFrom i m : Nat) : Int)) := by
    intro i acc H hi hlt
    have hs := shr_eq (p := (m : Int)) (i := i) (k := .i64) (by omega)
    have hz : (m : Int) / 2 ^ i = 0 := by
      have : m / 2 ^ i = 0 := Nat.div_eq_of_lt hlt
      have h2 : ((m / 2 ^ i : Nat) : Int) = (m : Int) / 2 ^ i := by simp
      rw [← h2, this]; rfl
    rw [hz] at hs
    refine ⟨[(0, .i .i64 (m : Int)), (3, .i .i64 (acc : Int)), (4, .i .i64 (i : Int)), (8, .b false)], ?_, by rw [pegsFrom_none hlt]; rfl⟩
    rw [l23_1, den_loop]
    simp [b23_0, go_nil, go_last, go_past, go_pastR, go_blkN, go_blkR, go_blkE, go_skip, go_exit, go_ret, go_scope, go_seq, go_reg, go_block, go_cond, cnd_b, go_opsN, go_ops, go_opsG, grd_b, grd_u, stp_some, fin_some, up_some, cont_some, k_call, k_mv, k_pick, k_bin, k_eqB, k_eqA, k_not, k_neg, k_conv, k_alloc, k_boxA, k_boxI, k_boxB, k_boxN, k_boxBs, k_ldR, k_ldA, k_ldI, k_ldB, k_stA, k_stI, k_stB, ldC_some, stC_some, k_mkfn, k_slc, k_slcA, k_ixA, k_ixBs, k_ixSl, k_fadr, k_fld, k_ext, k_len, k_app, k_mn, k_mx, k_nilck, k_build, k_bsl1, k_bsl2, b_add, b_sub, b_mul, b_eql, b_neq, b_lss, b_leq, b_gtr, b_geq, Dn.setLast, Dn.getLast, evalO, mapO, Dn.get, putE, keepE, TV.one, TV.isAgg, Dn.part, hs]
  intro f
  induction f with
  | zero =>
    intro i acc H hi ha
    obtain rfl : i = 16 := by omega
    exact stop 16 acc H (by omega) (by omega)
  | succ f ih =>
    intro i acc H hi ha
    by_cases hlt : m < 2 ^ i
    · exact stop i acc H (by omega) hlt
    · have hs := shr_eq (p := (m : Int)) (i := i) (k := .i64) (by omega)
      have hpos : (0 : Int) < (m : Int) / 2 ^ i := by
        have : 0 < m / 2 ^ i := Nat.div_pos (by omega) (Nat.two_pow_pos i)
        have h2 : ((m / 2 ^ i : Nat) : Int) = (m : Int) / 2 ^ i := by simp
        omega
      have hrem : binI .rem (.i .i64 ((m : Int) / 2 ^ i)) (.i .i64 2) = some (.i .i64 (((if m.testBit i then 1 else 0 : Nat)) : Int)) := by
        rw [b_rem, if_neg (by decide), Int.tmod_eq_emod_of_nonneg (by omega), show (m : Int) / 2 ^ i % 2 = bt (m : Int) i from rfl, bt_test]
        split <;> rfl
      have hstep := pegsFrom_step (i := i) (m := m) (by omega)
      generalize hb : (if m.testBit i then 1 else 0 : Nat) = b at hrem hstep
      have hb1 : b ≤ 1 := by rw [← hb]; split <;> omega
      have e2 : wrapR .i64 ((i : Int) + 1) = .i .i64 ((i : Int) + 1) := wrapR_i64 (by omega)
      have e3 : wrapR .i64 ((acc : Int) + (b : Int)) = .i .i64 ((acc : Int) + (b : Int)) := wrapR_i64 (by omega)
      obtain ⟨e, h1, h2⟩ := ih (i + 1) (acc + b) H (by omega) (by omega)
      refine ⟨e, Eq.trans ?_ h1, by rw [hstep, ← Nat.add_assoc]; exact h2⟩
      generalize (m : Int) / 2 ^ i = w at hs hpos hrem
      rw [l23_1, den_loop]
      simp [l23_1, b23_0, go_nil, go_last, go_past, go_pastR, go_blkN, go_blkR, go_blkE, go_skip, go_exit, go_ret, go_scope, go_seq, go_reg, go_block, go_cond, cnd_b, go_opsN, go_ops, go_opsG, grd_b, grd_u, stp_some, fin_some, up_some, cont_some, k_call, k_mv, k_pick, k_bin, k_eqB, k_eqA, k_not, k_neg, k_conv, k_alloc, k_boxA, k_boxI, k_boxB, k_boxN, k_boxBs, k_ldR, k_ldA, k_ldI, k_ldB, k_stA, k_stI, k_stB, ldC_some, stC_some, k_mkfn, k_slc, k_slcA, k_ixA, k_ixBs, k_ixSl, k_fadr, k_fld, k_ext, k_len, k_app, k_mn, k_mx, k_nilck, k_build, k_bsl1, k_bsl2, b_add, b_sub, b_mul, b_eql, b_neq, b_lss, b_leq, b_gtr, b_geq, Dn.setLast, Dn.getLast, evalO, mapO, Dn.get, putE, keepE, TV.one, TV.isAgg, Dn.part, hs, hpos, hrem, e2, e3]

theorem fn23 {pg : Pg} (hF : Free pg) {m : Nat} (hm : m < 65536) : Fn pg 23 [.i .i64 (m : Int)] (.i .i64 (pegs m : Int)) := by
  obtain ⟨e, h1, h2⟩ := l23_all (pg := pg) hm 16 0 0 [] (by omega) (by omega)
  rw [pegsFrom_zero, Nat.zero_add] at h2
  simp only [Int.natCast_zero] at h1
  refine .of1 (x := .ret) (e := [(2, .i .i64 (pegs m : Int))]) (H' := []) (hF.S _ _ (by decide)) (d := d23) (by rw [hF.F]; rfl) rfl ?_ (.inl rfl) rfl (by simp [sn_i, sn_b, sn_nil, sn8_i, sn8_b, sn8_nil, sn7_i, sn7_b, sn_sl, sn8_sl, slB_some, sn_tup, sn_agg, sn8_agg, mapO, elems])
  simp [d23, c23, zipE, go_nil, go_last, go_past, go_pastR, go_blkN, go_blkR, go_blkE, go_skip, go_exit, go_ret, go_scope, go_seq, go_reg, go_block, go_cond, cnd_b, go_opsN, go_ops, go_opsG, grd_b, grd_u, stp_some, fin_some, up_some, cont_some, k_call, k_mv, k_pick, k_bin, k_eqB, k_eqA, k_not, k_neg, k_conv, k_alloc, k_boxA, k_boxI, k_boxB, k_boxN, k_boxBs, k_ldR, k_ldA, k_ldI, k_ldB, k_stA, k_stI, k_stB, ldC_some, stC_some, k_mkfn, k_slc, k_slcA, k_ixA, k_ixBs, k_ixSl, k_fadr, k_fld, k_ext, k_len, k_app, k_mn, k_mx, k_nilck, k_build, k_bsl1, k_bsl2, b_add, b_sub, b_mul, b_eql, b_neq, b_lss, b_leq, b_gtr, b_geq, Dn.setLast, Dn.getLast, evalO, mapO, Dn.get, putE, keepE, TV.one, TV.isAgg, Dn.part, go_denK (c := l23_1) rfl, h1, h2]

theorem l26_all {pg : Pg} {A B : TV} {l : List Int} (hA : ∀ H, elI.View H A l) (hB : ∀ H, elI.View H B l) (hl : l.length ≤ 1000000) : ∀ (f i : Nat) (H : Heap), i + f = l.length →
    den pg l26_1 [(0, A), (1, B), (5, .i .i64 (i : Int))] H = some ⟨.exit 0, [(0, A), (1, B), (5, .i .i64 (l.length : Int)), (14, .b false)], H⟩
  | 0, i, H, h => by
    obtain rfl : i = l.length := by omega
    have hlen := fun H H' => (hA H).lenK H'
    rw [l26_1, den_loop]
    simp [b26_0, go_nil, go_last, go_past, go_pastR, go_blkN, go_blkR, go_blkE, go_skip, go_exit, go_ret, go_scope, go_seq, go_reg, go_block, go_cond, cnd_b, go_opsN, go_ops, go_opsG, grd_b, grd_u, stp_some, fin_some, up_some, cont_some, k_call, k_mv, k_pick, k_bin, k_eqB, k_eqA, k_not, k_neg, k_conv, k_alloc, k_boxA, k_boxI, k_boxB, k_boxN, k_boxBs, k_ldR, k_ldA, k_ldI, k_ldB, k_stA, k_stI, k_stB, ldC_some, stC_some, k_mkfn, k_slc, k_slcA, k_ixA, k_ixBs, k_ixSl, k_fadr, k_fld, k_ext, k_len, k_app, k_mn, k_mx, k_nilck, k_build, k_bsl1, k_bsl2, b_add, b_sub, b_mul, b_eql, b_neq, b_lss, b_leq, b_gtr, b_geq, Dn.setLast, Dn.getLast, evalO, mapO, Dn.get, putE, keepE, TV.one, TV.isAgg, Dn.part, hlen []]
  | f + 1, i, H, h => by
    have hi : i < l.length := by omega
    have e1 : ((i : Int) < (l.length : Int)) := by omega
    have e2 : wrapR .i64 ((i : Int) + 1) = .i .i64 ((i : Int) + 1) := wrapR_i64 (by omega)
    have hlen := fun H H' => (hA H).lenK H'
    obtain ⟨p, hp, hv⟩ := ixI (pg := pg) (R := den pg) (hA H) (List.getElem?_eq_getElem hi)
    obtain ⟨q, hq, hw⟩ := ixI (pg := pg) (R := den pg) (hB H) (List.getElem?_eq_getElem hi)
    refine Eq.trans ?_ (l26_all (pg := pg) hA hB hl f (i + 1) H (by omega))
    rw [l26_1, den_loop]
    simp [l26_1, b26_0, go_nil, go_last, go_past, go_pastR, go_blkN, go_blkR, go_blkE, go_skip, go_exit, go_ret, go_scope, go_seq, go_reg, go_block, go_cond, cnd_b, go_opsN, go_ops, go_opsG, grd_b, grd_u, stp_some, fin_some, up_some, cont_some, k_call, k_mv, k_pick, k_bin, k_eqB, k_eqA, k_not, k_neg, k_conv, k_alloc, k_boxA, k_boxI, k_boxB, k_boxN, k_boxBs, k_ldR, k_ldA, k_ldI, k_ldB, k_stA, k_stI, k_stB, ldC_some, stC_some, k_mkfn, k_slc, k_slcA, k_ixA, k_ixBs, k_ixSl, k_fadr, k_fld, k_ext, k_len, k_app, k_mn, k_mx, k_nilck, k_build, k_bsl1, k_bsl2, b_add, b_sub, b_mul, b_eql, b_neq, b_lss, b_leq, b_gtr, b_geq, Dn.setLast, Dn.getLast, evalO, mapO, Dn.get, putE, keepE, TV.one, TV.isAgg, Dn.part, hlen [], e1, e2, hp, hv, hq, hw]

theorem fn26 {pg : Pg} (hF : Free pg) {A B : TV} {l : List Int} (hA : ∀ H, elI.View H A l) (hB : ∀ H, elI.View H B l) (hl : l.length ≤ 1000000) : Fn pg 26 [A, B] (.b true) := by
  have h1 := l26_all (pg := pg) hA hB hl l.length 0 [] (by omega)
  simp only [Int.natCast_zero] at h1
  have hlA := fun H H' => (hA H).lenK H'
  have hlB := fun H H' => (hB H).lenK H'
  refine .of1 (x := .ret) (e := [(4, .b true)]) (H' := []) (hF.S _ _ (by decide)) (d := d26) (by rw [hF.F]; rfl) rfl ?_ (.inl rfl) rfl (by simp [sn_i, sn_b, sn_nil, sn8_i, sn8_b, sn8_nil, sn7_i, sn7_b, sn_sl, sn8_sl, slB_some, sn_tup, sn_agg, sn8_agg, mapO, elems])
  simp [d26, c26, zipE, go_nil, go_last, go_past, go_pastR, go_blkN, go_blkR, go_blkE, go_skip, go_exit, go_ret, go_scope, go_seq, go_reg, go_block, go_cond, cnd_b, go_opsN, go_ops, go_opsG, grd_b, grd_u, stp_some, fin_some, up_some, cont_some, k_call, k_mv, k_pick, k_bin, k_eqB, k_eqA, k_not, k_neg, k_conv, k_alloc, k_boxA, k_boxI, k_boxB, k_boxN, k_boxBs, k_ldR, k_ldA, k_ldI, k_ldB, k_stA, k_stI, k_stB, ldC_some, stC_some, k_mkfn, k_slc, k_slcA, k_ixA, k_ixBs, k_ixSl, k_fadr, k_fld, k_ext, k_len, k_app, k_mn, k_mx, k_nilck, k_build, k_bsl1, k_bsl2, b_add, b_sub, b_mul, b_eql, b_neq, b_lss, b_leq, b_gtr, b_geq, Dn.setLast, Dn.getLast, evalO, mapO, Dn.get, putE, keepE, TV.one, TV.isAgg, Dn.part, hlA [], hlB [], go_denK (c := l26_1) rfl, h1]

end Go.Proofs.Try.Dn

/-
  PegReached: the whole run answers true.
-/

namespace Go.Proofs.Try.Dn
open Go.Dn

end Go.Proofs.Try.Dn

