/-
  Knight: the board opened, round by round.
-/
import Derived.Test.YtdjbpmgbaggfbaaDoorKa
set_option linter.unusedSimpArgs false
set_option linter.unusedVariables false

namespace Go.Proofs.Tryd.Dn
open Go.Dn

theorem tdiv_nat (s c : Nat) : ((s : Int)).tdiv (c : Int) = ((s / c : Nat) : Int) := by rw [Int.tdiv_eq_ediv_of_nonneg (by omega)]; simp
theorem tmod_nat (s c : Nat) : ((s : Int)).tmod (c : Int) = ((s % c : Nat) : Int) := by rw [Int.tmod_eq_emod_of_nonneg (by omega)]; simp

def sgC : List TV := [.i .i64 1, .i .i64 1, .i .i64 1, .i .i64 (-1), .i .i64 (-1), .i .i64 1, .i .i64 (-1), .i .i64 (-1)]

theorem l59_1_round {pg : Pg} {r c s B D SG S2 : Nat} (h : Brd r c) (hs : s < r * c) (hBD : B < D) {f : Nat → Nat} (hf : ∀ i, f i < 2 ^ (r * c)) {Q : TV} {d1 d2 g1 g2 : Int} (hd : -2 ≤ d1 * g1 ∧ d1 * g1 ≤ 2 ∧ -2 ≤ d2 * g2 ∧ d2 * g2 ≤ 2) {i j : Nat} (hj : j < 4) {H : Heap}
    (hB : H[B]? = some (.cells (bC r c f) true)) (hX : H[B + 1]? = some (.cells [.ref B 0] false)) (hD : H[D]? = some (.cells [.i .i64 d1, .i .i64 d2] true)) (hS : H[SG]? = some (.cells sgC false)) (hg : (sgC.drop (j * 2)).take 2 = [.i .i64 g1, .i .i64 g2]) (hX1 : D ≠ B + 1 ∧ SG ≠ B + 1 ∧ SG ≠ B) :
    ∃ H', den pg l59_1 [(0, .i .i64 (r : Int)), (1, .i .i64 (c : Int)), (2, Q), (8, .ref (B + 1) 0), (9, .i .i64 (s : Int)), (11, .ref D 0), (42, .i .i64 ((r * c : Nat) : Int)), (43, .i .i64 (s : Int)), (48, .sl S2 0 2 true 2 (some 2)), (49, .i .i64 2), (50, .i .i64 (i : Int)), (58, .sl SG 0 2 true 4 (some 4)), (59, .i .i64 4), (60, .i .i64 (j : Int))] H =
        den pg l59_1 [(0, .i .i64 (r : Int)), (1, .i .i64 (c : Int)), (2, Q), (8, .ref (B + 1) 0), (9, .i .i64 (s : Int)), (11, .ref D 0), (42, .i .i64 ((r * c : Nat) : Int)), (43, .i .i64 (s : Int)), (48, .sl S2 0 2 true 2 (some 2)), (49, .i .i64 2), (50, .i .i64 (i : Int)), (58, .sl SG 0 2 true 4 (some 4)), (59, .i .i64 4), (60, .i .i64 ((j + 1 : Nat) : Int))] H' ∧
      H'[B]? = some (.cells (bC r c (upd f s (put r c s (f s) (d1 * g1, d2 * g2)))) true) ∧ H.length ≤ H'.length ∧ ∀ m, m < H.length → m ≠ B → H'[m]? = H[m]? := by
  have hc1 := h.c1
  have hr8 := h.r8
  have hc8 := h.c8
  have hn := h.n36
  have hsc : s / c < r := Nat.div_lt_of_lt_mul (by rw [Nat.mul_comm]; exact hs)
  have hsm : s % c < c := Nat.mod_lt _ (by omega)
  have hBl := (List.getElem?_eq_some_iff.1 hB).1
  have hDl := (List.getElem?_eq_some_iff.1 hD).1
  have hXl := (List.getElem?_eq_some_iff.1 hX).1
  have e1 : ((j : Int) < 4) := by omega
  have e2 : wrapR .i64 ((j : Int) + 1) = .i .i64 ((j : Int) + 1) := wrapR_i64 (by omega)
  have hix : dkc pg (den pg) (.ixS 2 true) [.sl SG 0 2 true 4 (some 4), .i .i64 (j : Int)] H = some (.ref SG (j * 2), H) := by
    rw [k_ixSl _ _ _ _ _ _ _ _ _ _ (by omega) (by omega)]; simp
  have hld : dkc pg (den pg) (.ld 2 true) [.ref SG (j * 2)] H = some (.agg [.i .i64 g1, .i .i64 g2], H) := by
    have : j * 2 + 2 ≤ sgC.length := by simp [sgC]; omega
    rw [k_ldR, hS, ldC_some]
    unfold Dn.part
    rw [if_pos rfl, if_pos this, hg]
    rfl
  obtain ⟨H1, hH1⟩ : ∃ H1, H1 = H ++ [.cells [.i .i64 g1, .i .i64 g2] true] := ⟨_, rfl⟩
  have hH1l : H1.length = H.length + 1 := by rw [hH1]; simp
  have st0 : dkc pg (den pg) (.st 2) [.ref H.length 0, .agg [.i .i64 g1, .i .i64 g2]] (H ++ [.cells [.i .i64 0, .i .i64 0] true]) = some (.undef, H1) := by
    rw [k_stA, getLast, stC_some, if_pos ⟨rfl, rfl, by simp⟩, Dn.setLast, hH1]
    simp [put2]
  have k1 : ∀ m, m < H.length → H1[m]? = H[m]? := fun m hm => by rw [hH1, List.getElem?_append_left hm]
  have hG : H1[H.length]? = some (.cells [.i .i64 g1, .i .i64 g2] true) := by rw [hH1]; exact getLast _ _
  have hD1 := hD
  rw [← k1 D hDl] at hD1
  have hB1 := hB
  rw [← k1 B hBl] at hB1
  have hX1' := hX
  rw [← k1 _ hXl] at hX1'
  have la : ∀ (id : Nat) (a b : Int), H1[id]? = some (.cells [.i .i64 a, .i .i64 b] true) → dkc pg (den pg) (.ld 1 false) [.ref id 0] H1 = some (.i .i64 a, H1) ∧ dkc pg (den pg) (.ld 1 false) [.ref id 1] H1 = some (.i .i64 b, H1) := fun id a b hid => by
    constructor <;> rw [k_ldR, hid, ldC_some] <;> rfl
  obtain ⟨ld1, ld2⟩ := la D d1 d2 hD1
  obtain ⟨lg1, lg2⟩ := la H.length g1 g2 hG
  have lb := ld_box (pg := pg) (R := den pg) hX1' (by rfl)
  have td := tdiv_nat s c
  have tm := tmod_nat s c
  have c0 : ¬ (c : Int) = 0 := by omega
  have c0' : ¬ c = 0 := by omega
  unfold put
  simp only
  generalize s / c = sa at *
  generalize s % c = sb at *
  have wq : wrapR .i64 (sa : Int) = .i .i64 (sa : Int) := wrapR_i64 (by clear td tm; omega)
  have wm1 : wrapR .i64 (d1 * g1) = .i .i64 (d1 * g1) := wrapR_i64 (by omega)
  have wm2 : wrapR .i64 (d2 * g2) = .i .i64 (d2 * g2) := wrapR_i64 (by omega)
  have wa1 : wrapR .i64 ((sa : Int) + d1 * g1) = .i .i64 ((sa : Int) + d1 * g1) := wrapR_i64 (by clear td tm; omega)
  have wa2 : wrapR .i64 ((sb : Int) + d2 * g2) = .i .i64 ((sb : Int) + d2 * g2) := wrapR_i64 (by clear td tm; omega)
  generalize hI : (sa : Int) + d1 * g1 = I at *
  generalize hK : (sb : Int) + d2 * g2 = K at *
  have skip : ¬ (0 ≤ I ∧ I < (r : Int) ∧ 0 ≤ K ∧ K < (c : Int)) → upd f s (if 0 ≤ I ∧ I < (r : Int) ∧ 0 ≤ K ∧ K < (c : Int) then f s ||| 2 ^ (I * c + K).toNat else f s) = f := fun hn => by
    rw [if_neg hn]; funext m; unfold upd; split
    · rename_i h; rw [h]
    · rfl
  by_cases q1 : 0 ≤ I
  · by_cases q2 : I < (r : Int)
    · by_cases q3 : 0 ≤ K
      · by_cases q4 : K < (c : Int)
        · have hIc : 0 ≤ I * (c : Int) := Int.mul_nonneg q1 (by omega)
          have hle : (I + 1) * (c : Int) ≤ (r : Int) * c := Int.mul_le_mul_of_nonneg_right (by omega) (by omega)
          rw [Int.add_mul] at hle
          have hcast : ((r * c : Nat) : Int) = (r : Int) * c := by simp
          obtain ⟨t, ht⟩ : ∃ t : Nat, (I * c + K) = (t : Int) := ⟨(I * c + K).toNat, by omega⟩
          have ht36 : t < 36 := by omega
          have w1 : wrapR .i64 (I * (c : Int)) = .i .i64 (I * (c : Int)) := wrapR_i64 (by omega)
          have w2 : wrapR .i64 (I * (c : Int) + K) = .i .i64 (t : Int) := by rw [ht]; exact wrapR_i64 (by omega)
          have w3 : wrapR .u64 (t : Int) = .i .u64 (t : Int) := wrap_u (by omega)
          have sh := shl_u (k := .u64) (c := t) (by omega)
          have hfs := hf s
          have hfs' : f s < 18446744073709551616 := Nat.lt_trans hfs (by have := Nat.pow_le_pow_right (n := 2) (by decide) hn; omega)
          have h2t : 2 ^ t < 18446744073709551616 := by have := Nat.pow_lt_pow_right (a := 2) (by decide) (show t < 64 by omega); omega
          have ho := or_uu hfs' h2t
          have lm := ld_m (pg := pg) (R := den pg) hB1 (s := s) (by omega)
          have ixm := fun K => ix_m (pg := pg) (R := den pg) (M := B) (k := .i64) (s := s) (by omega) K
          have stm := st_m (pg := pg) (R := den pg) hB1 (s := s) (by omega) (f s ||| 2 ^ t)
          refine ⟨H1.set B (.cells (bC r c (upd f s (f s ||| 2 ^ t))) true), ?_, ?_, by simp; omega, fun m hm hne => by rw [List.getElem?_set_ne (by omega), k1 m hm]⟩
          · generalize f s ||| 2 ^ t = v at *
            generalize 2 ^ t = p at *
            rw [l59_1, den_loop]
            simp [l59_1, b59_0, go_nil, go_last, go_past, go_pastR, go_blkN, go_blkR, go_blkE, go_skip, go_exit, go_ret, go_scope, go_seq, go_reg, go_regd, go_opdN, go_opd, go_opdG, grdd_b, grdd_u, stpd_some, find_some, go_block, go_cond, cnd_b, go_opsN, go_ops, go_opsG, grd_b, grd_u, stp_some, fin_some, up_some, cont_some, k_call, k_mv, k_pick, k_bin, k_eqB, k_eqA, k_not, k_neg, k_conv, k_alloc, k_boxA, k_boxI, k_boxB, k_boxN, k_boxBs, k_ldR, k_ldA, k_ldI, k_ldB, k_stA, k_stI, k_stB, ldC_some, stC_some, k_mkfn, k_slc, k_slcA, k_ixA, k_ixBs, k_ixSl, k_fadr, k_fld, k_ext, k_len, k_app, k_mn, k_mx, k_nilck, k_build, k_bsl1, k_bsl2, b_add, b_sub, b_mul, b_eql, b_neq, b_lss, b_leq, b_gtr, b_geq, Dn.setLast, Dn.getLast, evalO, mapO, Dn.get, putE, keepE, TV.one, TV.isAgg, Dn.part, b_quo, b_rem, e1, e2, hix, hld, st0, td, tm, c0, c0', wq, ld1, ld2, lg1, lg2, wm1, wm2, hI, hK, wa1, wa2, q1, q2, q3, q4, lb, lm, ixm, w1, w2, w3, sh, ho, stm]
          · rw [List.getElem?_set_self (by omega), if_pos ⟨q1, q2, q3, q4⟩, ht, Int.toNat_natCast]
        · refine ⟨H1, ?_, by rw [skip (by omega)]; exact hB1, by omega, fun m hm _ => k1 m hm⟩
          rw [l59_1, den_loop]
          simp [l59_1, b59_0, go_nil, go_last, go_past, go_pastR, go_blkN, go_blkR, go_blkE, go_skip, go_exit, go_ret, go_scope, go_seq, go_reg, go_regd, go_opdN, go_opd, go_opdG, grdd_b, grdd_u, stpd_some, find_some, go_block, go_cond, cnd_b, go_opsN, go_ops, go_opsG, grd_b, grd_u, stp_some, fin_some, up_some, cont_some, k_call, k_mv, k_pick, k_bin, k_eqB, k_eqA, k_not, k_neg, k_conv, k_alloc, k_boxA, k_boxI, k_boxB, k_boxN, k_boxBs, k_ldR, k_ldA, k_ldI, k_ldB, k_stA, k_stI, k_stB, ldC_some, stC_some, k_mkfn, k_slc, k_slcA, k_ixA, k_ixBs, k_ixSl, k_fadr, k_fld, k_ext, k_len, k_app, k_mn, k_mx, k_nilck, k_build, k_bsl1, k_bsl2, b_add, b_sub, b_mul, b_eql, b_neq, b_lss, b_leq, b_gtr, b_geq, Dn.setLast, Dn.getLast, evalO, mapO, Dn.get, putE, keepE, TV.one, TV.isAgg, Dn.part, b_quo, b_rem, e1, e2, hix, hld, st0, td, tm, c0, c0', wq, ld1, ld2, lg1, lg2, wm1, wm2, hI, hK, wa1, wa2, q1, q2, q3, q4]
      · refine ⟨H1, ?_, by rw [skip (by omega)]; exact hB1, by omega, fun m hm _ => k1 m hm⟩
        rw [l59_1, den_loop]
        simp [l59_1, b59_0, go_nil, go_last, go_past, go_pastR, go_blkN, go_blkR, go_blkE, go_skip, go_exit, go_ret, go_scope, go_seq, go_reg, go_regd, go_opdN, go_opd, go_opdG, grdd_b, grdd_u, stpd_some, find_some, go_block, go_cond, cnd_b, go_opsN, go_ops, go_opsG, grd_b, grd_u, stp_some, fin_some, up_some, cont_some, k_call, k_mv, k_pick, k_bin, k_eqB, k_eqA, k_not, k_neg, k_conv, k_alloc, k_boxA, k_boxI, k_boxB, k_boxN, k_boxBs, k_ldR, k_ldA, k_ldI, k_ldB, k_stA, k_stI, k_stB, ldC_some, stC_some, k_mkfn, k_slc, k_slcA, k_ixA, k_ixBs, k_ixSl, k_fadr, k_fld, k_ext, k_len, k_app, k_mn, k_mx, k_nilck, k_build, k_bsl1, k_bsl2, b_add, b_sub, b_mul, b_eql, b_neq, b_lss, b_leq, b_gtr, b_geq, Dn.setLast, Dn.getLast, evalO, mapO, Dn.get, putE, keepE, TV.one, TV.isAgg, Dn.part, b_quo, b_rem, e1, e2, hix, hld, st0, td, tm, c0, c0', wq, ld1, ld2, lg1, lg2, wm1, wm2, hI, hK, wa1, wa2, q1, q2, q3]
    · refine ⟨H1, ?_, by rw [skip (by omega)]; exact hB1, by omega, fun m hm _ => k1 m hm⟩
      rw [l59_1, den_loop]
      simp [l59_1, b59_0, go_nil, go_last, go_past, go_pastR, go_blkN, go_blkR, go_blkE, go_skip, go_exit, go_ret, go_scope, go_seq, go_reg, go_regd, go_opdN, go_opd, go_opdG, grdd_b, grdd_u, stpd_some, find_some, go_block, go_cond, cnd_b, go_opsN, go_ops, go_opsG, grd_b, grd_u, stp_some, fin_some, up_some, cont_some, k_call, k_mv, k_pick, k_bin, k_eqB, k_eqA, k_not, k_neg, k_conv, k_alloc, k_boxA, k_boxI, k_boxB, k_boxN, k_boxBs, k_ldR, k_ldA, k_ldI, k_ldB, k_stA, k_stI, k_stB, ldC_some, stC_some, k_mkfn, k_slc, k_slcA, k_ixA, k_ixBs, k_ixSl, k_fadr, k_fld, k_ext, k_len, k_app, k_mn, k_mx, k_nilck, k_build, k_bsl1, k_bsl2, b_add, b_sub, b_mul, b_eql, b_neq, b_lss, b_leq, b_gtr, b_geq, Dn.setLast, Dn.getLast, evalO, mapO, Dn.get, putE, keepE, TV.one, TV.isAgg, Dn.part, b_quo, b_rem, e1, e2, hix, hld, st0, td, tm, c0, c0', wq, ld1, ld2, lg1, lg2, wm1, wm2, hI, hK, wa1, wa2, q1, q2]
  · refine ⟨H1, ?_, by rw [skip (by omega)]; exact hB1, by omega, fun m hm _ => k1 m hm⟩
    rw [l59_1, den_loop]
    simp [l59_1, b59_0, go_nil, go_last, go_past, go_pastR, go_blkN, go_blkR, go_blkE, go_skip, go_exit, go_ret, go_scope, go_seq, go_reg, go_regd, go_opdN, go_opd, go_opdG, grdd_b, grdd_u, stpd_some, find_some, go_block, go_cond, cnd_b, go_opsN, go_ops, go_opsG, grd_b, grd_u, stp_some, fin_some, up_some, cont_some, k_call, k_mv, k_pick, k_bin, k_eqB, k_eqA, k_not, k_neg, k_conv, k_alloc, k_boxA, k_boxI, k_boxB, k_boxN, k_boxBs, k_ldR, k_ldA, k_ldI, k_ldB, k_stA, k_stI, k_stB, ldC_some, stC_some, k_mkfn, k_slc, k_slcA, k_ixA, k_ixBs, k_ixSl, k_fadr, k_fld, k_ext, k_len, k_app, k_mn, k_mx, k_nilck, k_build, k_bsl1, k_bsl2, b_add, b_sub, b_mul, b_eql, b_neq, b_lss, b_leq, b_gtr, b_geq, Dn.setLast, Dn.getLast, evalO, mapO, Dn.get, putE, keepE, TV.one, TV.isAgg, Dn.part, b_quo, b_rem, e1, e2, hix, hld, st0, td, tm, c0, c0', wq, ld1, ld2, lg1, lg2, wm1, wm2, hI, hK, wa1, wa2, q1]

end Go.Proofs.Tryd.Dn

/-
  Knight: the board opened, all of it.
-/

namespace Go.Proofs.Tryd.Dn
open Go.Dn

theorem upd_upd (f : Nat → Nat) (s v w : Nat) : upd (upd f s v) s w = upd f s w := by funext i; unfold upd; split <;> rfl
theorem upd_same (f : Nat → Nat) (s v : Nat) : upd f s v s = v := by unfold upd; rw [if_pos rfl]
theorem upd_lt {r c s : Nat} (h : Brd r c) (hs : s < r * c) {f : Nat → Nat} (hf : ∀ i, f i < 2 ^ (r * c)) (d : Int × Int) : ∀ i, upd f s (put r c s (f s) d) i < 2 ^ (r * c) := by
  intro i; unfold upd; split
  · exact mv_lt h hs _ (hf s) d
  · exact hf i

theorem l59_1_all {pg : Pg} {r c s B D SG S2 : Nat} (h : Brd r c) (hs : s < r * c) (hBD : B < D) {f : Nat → Nat} (hf : ∀ i, f i < 2 ^ (r * c)) {Q : TV} {d1 d2 : Int} (hd : 1 ≤ d1 ∧ d1 ≤ 2 ∧ 1 ≤ d2 ∧ d2 ≤ 2) {i : Nat} {H : Heap}
    (hB : H[B]? = some (.cells (bC r c f) true)) (hX : H[B + 1]? = some (.cells [.ref B 0] false)) (hD : H[D]? = some (.cells [.i .i64 d1, .i .i64 d2] true)) (hS : H[SG]? = some (.cells sgC false)) (hX1 : D ≠ B + 1 ∧ SG ≠ B + 1 ∧ SG ≠ B) :
    ∃ e H', den pg l59_1 [(0, .i .i64 (r : Int)), (1, .i .i64 (c : Int)), (2, Q), (8, .ref (B + 1) 0), (9, .i .i64 (s : Int)), (11, .ref D 0), (42, .i .i64 ((r * c : Nat) : Int)), (43, .i .i64 (s : Int)), (48, .sl S2 0 2 true 2 (some 2)), (49, .i .i64 2), (50, .i .i64 (i : Int)), (58, .sl SG 0 2 true 4 (some 4)), (59, .i .i64 4), (60, .i .i64 0)] H = some ⟨.exit 4, e, H'⟩ ∧
      keepE [0, 1, 2, 8, 9, 42, 43, 48, 49, 50] e = [(0, .i .i64 (r : Int)), (1, .i .i64 (c : Int)), (2, Q), (8, .ref (B + 1) 0), (9, .i .i64 (s : Int)), (42, .i .i64 ((r * c : Nat) : Int)), (43, .i .i64 (s : Int)), (48, .sl S2 0 2 true 2 (some 2)), (49, .i .i64 2), (50, .i .i64 (i : Int))] ∧
      H'[B]? = some (.cells (bC r c (upd f s (puts r c s (d1, d2) (f s)))) true) ∧ H.length ≤ H'.length ∧ ∀ m, m < H.length → m ≠ B → H'[m]? = H[m]? := by
  have hBl := (List.getElem?_eq_some_iff.1 hB).1
  have hDl := (List.getElem?_eq_some_iff.1 hD).1
  have hXl := (List.getElem?_eq_some_iff.1 hX).1
  have hSl := (List.getElem?_eq_some_iff.1 hS).1
  obtain ⟨H1, a1, a2, a3, a4⟩ := l59_1_round (pg := pg) (S2 := S2) h hs hBD hf (Q := Q) (d1 := d1) (d2 := d2) (g1 := 1) (g2 := 1) (by omega) (i := i) (j := 0) (by omega) hB hX hD hS rfl hX1
  have f1 := upd_lt h hs hf (d1 * 1, d2 * 1)
  obtain ⟨H2, b1, b2, b3, b4⟩ := l59_1_round (pg := pg) (S2 := S2) h hs hBD f1 (Q := Q) (d1 := d1) (d2 := d2) (g1 := 1) (g2 := -1) (by omega) (i := i) (j := 1) (by omega) a2 (by rw [a4 _ hXl (by omega)]; exact hX) (by rw [a4 _ hDl (by omega)]; exact hD) (by rw [a4 _ hSl (by omega)]; exact hS) rfl hX1
  rw [upd_upd, upd_same] at b2
  have f2 : ∀ i, upd f s (put r c s (put r c s (f s) (d1 * 1, d2 * 1)) (d1 * 1, d2 * -1)) i < 2 ^ (r * c) := by
    have := upd_lt h hs f1 (d1 * 1, d2 * -1); rwa [upd_upd, upd_same] at this
  obtain ⟨H3, c1, c2, c3, c4⟩ := l59_1_round (pg := pg) (S2 := S2) h hs hBD f2 (Q := Q) (d1 := d1) (d2 := d2) (g1 := -1) (g2 := 1) (by omega) (i := i) (j := 2) (by omega) b2 (by rw [b4 _ (by omega) (by omega), a4 _ hXl (by omega)]; exact hX) (by rw [b4 _ (by omega) (by omega), a4 _ hDl (by omega)]; exact hD) (by rw [b4 _ (by omega) (by omega), a4 _ hSl (by omega)]; exact hS) rfl hX1
  rw [upd_upd, upd_same] at c2
  have f3 : ∀ i, upd f s (put r c s (put r c s (put r c s (f s) (d1 * 1, d2 * 1)) (d1 * 1, d2 * -1)) (d1 * -1, d2 * 1)) i < 2 ^ (r * c) := by
    have := upd_lt h hs f2 (d1 * -1, d2 * 1); rwa [upd_upd, upd_same] at this
  obtain ⟨H4, q1, q2, q3, q4⟩ := l59_1_round (pg := pg) (S2 := S2) h hs hBD f3 (Q := Q) (d1 := d1) (d2 := d2) (g1 := -1) (g2 := -1) (by omega) (i := i) (j := 3) (by omega) c2 (by rw [c4 _ (by omega) (by omega), b4 _ (by omega) (by omega), a4 _ hXl (by omega)]; exact hX) (by rw [c4 _ (by omega) (by omega), b4 _ (by omega) (by omega), a4 _ hDl (by omega)]; exact hD) (by rw [c4 _ (by omega) (by omega), b4 _ (by omega) (by omega), a4 _ hSl (by omega)]; exact hS) rfl hX1
  rw [upd_upd, upd_same] at q2
  refine ⟨[(0, .i .i64 (r : Int)), (1, .i .i64 (c : Int)), (2, Q), (8, .ref (B + 1) 0), (9, .i .i64 (s : Int)), (11, .ref D 0), (42, .i .i64 ((r * c : Nat) : Int)), (43, .i .i64 (s : Int)), (48, .sl S2 0 2 true 2 (some 2)), (49, .i .i64 2), (50, .i .i64 (i : Int)), (58, .sl SG 0 2 true 4 (some 4)), (59, .i .i64 4), (60, .i .i64 4), (61, .b false)], H4, ?_, rfl, q2, by omega, fun m hm hne => by
    rw [q4 m (by omega) hne, c4 m (by omega) hne, b4 m (by omega) hne, a4 m hm hne]⟩
  refine Eq.trans a1 (Eq.trans b1 (Eq.trans c1 (Eq.trans q1 ?_)))
  rw [l59_1, den_loop]
  simp [b59_0, go_nil, go_last, go_past, go_pastR, go_blkN, go_blkR, go_blkE, go_skip, go_exit, go_ret, go_scope, go_seq, go_reg, go_regd, go_opdN, go_opd, go_opdG, grdd_b, grdd_u, stpd_some, find_some, go_block, go_cond, cnd_b, go_opsN, go_ops, go_opsG, grd_b, grd_u, stp_some, fin_some, up_some, cont_some, k_call, k_mv, k_pick, k_bin, k_eqB, k_eqA, k_not, k_neg, k_conv, k_alloc, k_boxA, k_boxI, k_boxB, k_boxN, k_boxBs, k_ldR, k_ldA, k_ldI, k_ldB, k_stA, k_stI, k_stB, ldC_some, stC_some, k_mkfn, k_slc, k_slcA, k_ixA, k_ixBs, k_ixSl, k_fadr, k_fld, k_ext, k_len, k_app, k_mn, k_mx, k_nilck, k_build, k_bsl1, k_bsl2, b_add, b_sub, b_mul, b_eql, b_neq, b_lss, b_leq, b_gtr, b_geq, Dn.setLast, Dn.getLast, evalO, mapO, Dn.get, putE, keepE, TV.one, TV.isAgg, Dn.part]

theorem l59_3_round {pg : Pg} {r c s B S2 : Nat} (h : Brd r c) (hs : s < r * c) (hBS : B + 1 < S2) {f : Nat → Nat} (hf : ∀ i, f i < 2 ^ (r * c)) {Q : TV} {d1 d2 : Int} (hd : 1 ≤ d1 ∧ d1 ≤ 2 ∧ 1 ≤ d2 ∧ d2 ≤ 2) {i : Nat} (hi : i < 2) {H : Heap}
    (hB : H[B]? = some (.cells (bC r c f) true)) (hX : H[B + 1]? = some (.cells [.ref B 0] false)) (hS : H[S2]? = some (.cells [.i .i64 1, .i .i64 2, .i .i64 2, .i .i64 1] false)) (hg : (([.i .i64 1, .i .i64 2, .i .i64 2, .i .i64 1] : List TV).drop (i * 2)).take 2 = [.i .i64 d1, .i .i64 d2]) :
    ∃ H', den pg l59_3 [(0, .i .i64 (r : Int)), (1, .i .i64 (c : Int)), (2, Q), (8, .ref (B + 1) 0), (9, .i .i64 (s : Int)), (42, .i .i64 ((r * c : Nat) : Int)), (43, .i .i64 (s : Int)), (48, .sl S2 0 2 true 2 (some 2)), (49, .i .i64 2), (50, .i .i64 (i : Int))] H =
        den pg l59_3 [(0, .i .i64 (r : Int)), (1, .i .i64 (c : Int)), (2, Q), (8, .ref (B + 1) 0), (9, .i .i64 (s : Int)), (42, .i .i64 ((r * c : Nat) : Int)), (43, .i .i64 (s : Int)), (48, .sl S2 0 2 true 2 (some 2)), (49, .i .i64 2), (50, .i .i64 ((i + 1 : Nat) : Int))] H' ∧
      H'[B]? = some (.cells (bC r c (upd f s (puts r c s (d1, d2) (f s)))) true) ∧ H.length ≤ H'.length ∧ ∀ m, m < H.length → m ≠ B → H'[m]? = H[m]? := by
  have hBl := (List.getElem?_eq_some_iff.1 hB).1
  have hXl := (List.getElem?_eq_some_iff.1 hX).1
  have hSl := (List.getElem?_eq_some_iff.1 hS).1
  have e1 : ((i : Int) < 2) := by omega
  have e2 : wrapR .i64 ((i : Int) + 1) = .i .i64 ((i : Int) + 1) := wrapR_i64 (by omega)
  have hix : dkc pg (den pg) (.ixS 2 true) [.sl S2 0 2 true 2 (some 2), .i .i64 (i : Int)] H = some (.ref S2 (i * 2), H) := by
    rw [k_ixSl _ _ _ _ _ _ _ _ _ _ (by omega) (by omega)]; simp
  have hld : dkc pg (den pg) (.ld 2 true) [.ref S2 (i * 2)] H = some (.agg [.i .i64 d1, .i .i64 d2], H) := by
    rw [k_ldR, hS, ldC_some]
    unfold Dn.part
    rw [if_pos rfl, if_pos (by simp; omega), hg]
    rfl
  obtain ⟨H1, hH1⟩ : ∃ H1, H1 = H ++ [.cells [.i .i64 d1, .i .i64 d2] true] := ⟨_, rfl⟩
  have hH1l : H1.length = H.length + 1 := by rw [hH1]; simp
  have st0 : dkc pg (den pg) (.st 2) [.ref H.length 0, .agg [.i .i64 d1, .i .i64 d2]] (H ++ [.cells [.i .i64 0, .i .i64 0] true]) = some (.undef, H1) := by
    rw [k_stA, getLast, stC_some, if_pos ⟨rfl, rfl, by simp⟩, Dn.setLast, hH1]
    simp [put2]
  obtain ⟨H2, hH2⟩ : ∃ H2, H2 = H1 ++ [.cells sgC false] := ⟨_, rfl⟩
  have hbs : dkc pg (den pg) (.bsl false [.i .i64 0, .i .i64 0] true 4 [0, 1, 2, 3]) [.agg [.i .i64 1, .i .i64 1], .agg [.i .i64 1, .i .i64 (-1)], .agg [.i .i64 (-1), .i .i64 1], .agg [.i .i64 (-1), .i .i64 (-1)]] H1 = some (.sl (H.length + 1) 0 2 true 4 (some 4), H2) := by
    rw [hH2, ← hH1l]; rfl
  have hbu : ∀ a b : Int, dkc pg (den pg) (.build [.i .i64 0, .i .i64 0] [(0, 1), (1, 1)]) [.i .i64 a, .i .i64 b] H1 = some (.agg [.i .i64 a, .i .i64 b], H1) := fun a b => rfl
  have k2 : ∀ m, m < H.length → H2[m]? = H[m]? := fun m hm => by rw [hH2, List.getElem?_append_left (by omega), hH1, List.getElem?_append_left hm]
  obtain ⟨e, H3, r1, r2, r3, r4, r5⟩ := l59_1_all (pg := pg) (B := B) (S2 := S2) (SG := H.length + 1) (D := H.length) h hs (by omega) hf (Q := Q) hd (i := i) (H := H2) (by rw [k2 _ hBl]; exact hB) (by rw [k2 _ hXl]; exact hX)
    (by rw [hH2, List.getElem?_append_left (by omega), hH1]; exact getLast _ _) (by rw [hH2, ← hH1l]; exact getLast _ _) (by omega)
  have hH2l : H2.length = H.length + 2 := by rw [hH2]; simp [hH1l]
  have g0 := keep_get r2 (s := 0) (by simp) rfl
  have g1 := keep_get r2 (s := 1) (by simp) rfl
  have g2 := keep_get r2 (s := 2) (by simp) rfl
  have g8 := keep_get r2 (s := 8) (by simp) rfl
  have g9 := keep_get r2 (s := 9) (by simp) rfl
  have g42 := keep_get r2 (s := 42) (by simp) rfl
  have g43 := keep_get r2 (s := 43) (by simp) rfl
  have g48 := keep_get r2 (s := 48) (by simp) rfl
  have g49 := keep_get r2 (s := 49) (by simp) rfl
  have g50 := keep_get r2 (s := 50) (by simp) rfl
  have hlen : lenK 0 (.sl (H.length + 1) 0 2 true 4 (some 4)) H2 = some 4 := rfl
  refine ⟨H3, ?_, r3, by omega, fun m hm hne => by rw [r5 m (by omega) hne, k2 m hm]⟩
  generalize ((r * c : Nat) : Int) = N at *
  rw [l59_3, den_loop]
  simp [l59_3, b59_2, go_nil, go_last, go_past, go_pastR, go_blkN, go_blkR, go_blkE, go_skip, go_exit, go_ret, go_scope, go_seq, go_reg, go_regd, go_opdN, go_opd, go_opdG, grdd_b, grdd_u, stpd_some, find_some, go_block, go_cond, cnd_b, go_opsN, go_ops, go_opsG, grd_b, grd_u, stp_some, fin_some, up_some, cont_some, k_call, k_mv, k_pick, k_bin, k_eqB, k_eqA, k_not, k_neg, k_conv, k_alloc, k_boxA, k_boxI, k_boxB, k_boxN, k_boxBs, k_ldR, k_ldA, k_ldI, k_ldB, k_stA, k_stI, k_stB, ldC_some, stC_some, k_mkfn, k_slc, k_slcA, k_ixA, k_ixBs, k_ixSl, k_fadr, k_fld, k_ext, k_len, k_app, k_mn, k_mx, k_nilck, k_build, k_bsl1, k_bsl2, b_add, b_sub, b_mul, b_eql, b_neq, b_lss, b_leq, b_gtr, b_geq, Dn.setLast, Dn.getLast, evalO, mapO, Dn.get, putE, keepE, TV.one, TV.isAgg, Dn.part, e1, e2, hix, hld, st0, hbs, hbu, hlen, go_denK (c := l59_1) rfl, r1, g0, g1, g2, g8, g9, g42, g43, g48, g49, g50]

theorem l59_3_all {pg : Pg} {r c s B S2 : Nat} (h : Brd r c) (hs : s < r * c) (hBS : B + 1 < S2) {f : Nat → Nat} (hf : ∀ i, f i < 2 ^ (r * c)) (h0 : f s = 0) {Q : TV} {H : Heap}
    (hB : H[B]? = some (.cells (bC r c f) true)) (hX : H[B + 1]? = some (.cells [.ref B 0] false)) (hS : H[S2]? = some (.cells [.i .i64 1, .i .i64 2, .i .i64 2, .i .i64 1] false)) :
    ∃ e H', den pg l59_3 [(0, .i .i64 (r : Int)), (1, .i .i64 (c : Int)), (2, Q), (8, .ref (B + 1) 0), (9, .i .i64 (s : Int)), (42, .i .i64 ((r * c : Nat) : Int)), (43, .i .i64 (s : Int)), (48, .sl S2 0 2 true 2 (some 2)), (49, .i .i64 2), (50, .i .i64 0)] H = some ⟨.exit 2, e, H'⟩ ∧
      keepE [0, 1, 2, 8, 42, 43] e = [(0, .i .i64 (r : Int)), (1, .i .i64 (c : Int)), (2, Q), (8, .ref (B + 1) 0), (42, .i .i64 ((r * c : Nat) : Int)), (43, .i .i64 (s : Int))] ∧
      H'[B]? = some (.cells (bC r c (upd f s (mv r c s))) true) ∧ H.length ≤ H'.length ∧ ∀ m, m < H.length → m ≠ B → H'[m]? = H[m]? := by
  have hXl := (List.getElem?_eq_some_iff.1 hX).1
  have hSl := (List.getElem?_eq_some_iff.1 hS).1
  obtain ⟨H1, a1, a2, a3, a4⟩ := l59_3_round (pg := pg) h hs hBS hf (Q := Q) (d1 := 1) (d2 := 2) (by omega) (i := 0) (by omega) hB hX hS rfl
  have f1 : ∀ i, upd f s (puts r c s (1, 2) (f s)) i < 2 ^ (r * c) := by
    have g1 := upd_lt h hs hf ((1 : Int) * 1, (2 : Int) * 1)
    have g2 := upd_lt h hs g1 ((1 : Int) * 1, (2 : Int) * -1)
    rw [upd_upd, upd_same] at g2
    have g3 := upd_lt h hs g2 ((1 : Int) * -1, (2 : Int) * 1)
    rw [upd_upd, upd_same] at g3
    have g4 := upd_lt h hs g3 ((1 : Int) * -1, (2 : Int) * -1)
    rw [upd_upd, upd_same] at g4
    exact g4
  obtain ⟨H2, b1, b2, b3, b4⟩ := l59_3_round (pg := pg) h hs hBS f1 (Q := Q) (d1 := 2) (d2 := 1) (by omega) (i := 1) (by omega) a2 (by rw [a4 _ hXl (by omega)]; exact hX) (by rw [a4 _ hSl (by omega)]; exact hS) rfl
  rw [upd_upd, upd_same, h0] at b2
  refine ⟨[(0, .i .i64 (r : Int)), (1, .i .i64 (c : Int)), (2, Q), (8, .ref (B + 1) 0), (9, .i .i64 (s : Int)), (42, .i .i64 ((r * c : Nat) : Int)), (43, .i .i64 (s : Int)), (48, .sl S2 0 2 true 2 (some 2)), (49, .i .i64 2), (50, .i .i64 2), (51, .b false)], H2, ?_, rfl, b2, by omega, fun m hm hne => by
    rw [b4 m (by omega) hne, a4 m hm hne]⟩
  refine Eq.trans a1 (Eq.trans b1 ?_)
  generalize ((r * c : Nat) : Int) = N at *
  rw [l59_3, den_loop]
  simp [b59_2, go_nil, go_last, go_past, go_pastR, go_blkN, go_blkR, go_blkE, go_skip, go_exit, go_ret, go_scope, go_seq, go_reg, go_regd, go_opdN, go_opd, go_opdG, grdd_b, grdd_u, stpd_some, find_some, go_block, go_cond, cnd_b, go_opsN, go_ops, go_opsG, grd_b, grd_u, stp_some, fin_some, up_some, cont_some, k_call, k_mv, k_pick, k_bin, k_eqB, k_eqA, k_not, k_neg, k_conv, k_alloc, k_boxA, k_boxI, k_boxB, k_boxN, k_boxBs, k_ldR, k_ldA, k_ldI, k_ldB, k_stA, k_stI, k_stB, ldC_some, stC_some, k_mkfn, k_slc, k_slcA, k_ixA, k_ixBs, k_ixSl, k_fadr, k_fld, k_ext, k_len, k_app, k_mn, k_mx, k_nilck, k_build, k_bsl1, k_bsl2, b_add, b_sub, b_mul, b_eql, b_neq, b_lss, b_leq, b_gtr, b_geq, Dn.setLast, Dn.getLast, evalO, mapO, Dn.get, putE, keepE, TV.one, TV.isAgg, Dn.part]

def mvTo (r c s : Nat) : Nat → Nat := fun i => if i < s then mv r c i else 0

theorem mvTo_step (r c s : Nat) : upd (mvTo r c s) s (mv r c s) = mvTo r c (s + 1) := by
  funext i
  unfold upd mvTo
  by_cases h : i = s
  · rw [if_pos h, if_pos (by omega), h]
  · rw [if_neg h]
    by_cases h2 : i < s
    · rw [if_pos h2, if_pos (by omega)]
    · rw [if_neg h2, if_neg (by omega)]

theorem mv_bound {r c s : Nat} (h : Brd r c) (hs : s < r * c) : mv r c s < 2 ^ (r * c) := by
  have z : ∀ i, (fun _ : Nat => 0) i < 2 ^ (r * c) := fun _ => Nat.pow_pos (by decide)
  have p := fun (m : Nat) (hm : m < 2 ^ (r * c)) d => mv_lt h hs m hm d
  unfold mv puts
  simp only [signs, List.foldl_cons, List.foldl_nil]
  exact p _ (p _ (p _ (p _ (p _ (p _ (p _ (p _ (Nat.pow_pos (by decide)) _) _) _) _) _) _) _) _

theorem l59_5_all {pg : Pg} {r c B : Nat} (h : Brd r c) {Q : TV} : ∀ (d s : Nat) (H : Heap), s + d = r * c → H[B]? = some (.cells (bC r c (mvTo r c s)) true) → H[B + 1]? = some (.cells [.ref B 0] false) →
    ∃ e H', den pg l59_5 [(0, .i .i64 (r : Int)), (1, .i .i64 (c : Int)), (2, Q), (8, .ref (B + 1) 0), (42, .i .i64 ((r * c : Nat) : Int)), (43, .i .i64 (s : Int))] H = some ⟨.exit 0, e, H'⟩ ∧
      keepE [2, 8] e = [(2, Q), (8, .ref (B + 1) 0)] ∧ H'[B]? = some (.cells (bC r c (mvTo r c (r * c))) true) ∧ H.length ≤ H'.length ∧ ∀ m, m < H.length → m ≠ B → H'[m]? = H[m]?
  | 0, s, H, hs, hB, hX => by
    obtain rfl : s = r * c := by omega
    have e1 : ¬ (((r * c : Nat) : Int) < ((r * c : Nat) : Int)) := by omega
    refine ⟨[(0, .i .i64 (r : Int)), (1, .i .i64 (c : Int)), (2, Q), (8, .ref (B + 1) 0), (42, .i .i64 ((r * c : Nat) : Int)), (43, .i .i64 ((r * c : Nat) : Int)), (44, .b false)], H, ?_, rfl, hB, Nat.le_refl _, fun _ _ _ => rfl⟩
    generalize ((r * c : Nat) : Int) = N at *
    rw [l59_5, den_loop]
    simp [b59_4, go_nil, go_last, go_past, go_pastR, go_blkN, go_blkR, go_blkE, go_skip, go_exit, go_ret, go_scope, go_seq, go_reg, go_regd, go_opdN, go_opd, go_opdG, grdd_b, grdd_u, stpd_some, find_some, go_block, go_cond, cnd_b, go_opsN, go_ops, go_opsG, grd_b, grd_u, stp_some, fin_some, up_some, cont_some, k_call, k_mv, k_pick, k_bin, k_eqB, k_eqA, k_not, k_neg, k_conv, k_alloc, k_boxA, k_boxI, k_boxB, k_boxN, k_boxBs, k_ldR, k_ldA, k_ldI, k_ldB, k_stA, k_stI, k_stB, ldC_some, stC_some, k_mkfn, k_slc, k_slcA, k_ixA, k_ixBs, k_ixSl, k_fadr, k_fld, k_ext, k_len, k_app, k_mn, k_mx, k_nilck, k_build, k_bsl1, k_bsl2, b_add, b_sub, b_mul, b_eql, b_neq, b_lss, b_leq, b_gtr, b_geq, Dn.setLast, Dn.getLast, evalO, mapO, Dn.get, putE, keepE, TV.one, TV.isAgg, Dn.part, e1]
  | d + 1, s, H, hs, hB, hX => by
    have hlt : s < r * c := by omega
    have hn := h.n36
    have e1 : ((s : Int) < ((r * c : Nat) : Int)) := by omega
    have e2 : wrapR .i64 ((s : Int) + 1) = .i .i64 ((s : Int) + 1) := wrapR_i64 (by omega)
    have hBl := (List.getElem?_eq_some_iff.1 hB).1
    have hXl := (List.getElem?_eq_some_iff.1 hX).1
    obtain ⟨H1, hH1⟩ : ∃ H1, H1 = H ++ [.cells [.i .i64 1, .i .i64 2, .i .i64 2, .i .i64 1] false] := ⟨_, rfl⟩
    have hbs : dkc pg (den pg) (.bsl false [.i .i64 0, .i .i64 0] true 2 [0, 1]) [.agg [.i .i64 1, .i .i64 2], .agg [.i .i64 2, .i .i64 1]] H = some (.sl H.length 0 2 true 2 (some 2), H1) := by
      rw [hH1]; rfl
    have hbu : ∀ a b : Int, dkc pg (den pg) (.build [.i .i64 0, .i .i64 0] [(0, 1), (1, 1)]) [.i .i64 a, .i .i64 b] H = some (.agg [.i .i64 a, .i .i64 b], H) := fun a b => rfl
    have hlen : lenK 0 (.sl H.length 0 2 true 2 (some 2)) H1 = some 2 := rfl
    have hH1l : H1.length = H.length + 1 := by rw [hH1]; simp
    have k1 : ∀ m, m < H.length → H1[m]? = H[m]? := fun m hm => by rw [hH1, List.getElem?_append_left hm]
    obtain ⟨e, H2, r1, r2, r3, r4, r5⟩ := l59_3_all (pg := pg) (B := B) (S2 := H.length) h hlt (by omega) (f := mvTo r c s) (fun i => by
      unfold mvTo; split
      · exact mv_bound h (by omega)
      · exact Nat.pow_pos (by decide)) (by unfold mvTo; rw [if_neg (by omega)]) (Q := Q) (H := H1) (by rw [k1 _ hBl]; exact hB) (by rw [k1 _ hXl]; exact hX) (by rw [hH1]; exact getLast _ _)
    rw [mvTo_step] at r3
    have g0 := keep_get r2 (s := 0) (by simp) rfl
    have g1 := keep_get r2 (s := 1) (by simp) rfl
    have g2 := keep_get r2 (s := 2) (by simp) rfl
    have g8 := keep_get r2 (s := 8) (by simp) rfl
    have g42 := keep_get r2 (s := 42) (by simp) rfl
    have g43 := keep_get r2 (s := 43) (by simp) rfl
    obtain ⟨e', H3, q1, q2, q3, q4, q5⟩ := l59_5_all (pg := pg) h (Q := Q) d (s + 1) H2 (by omega) r3 (by rw [r5 _ (by omega) (by omega), k1 _ hXl]; exact hX)
    refine ⟨e', H3, Eq.trans ?_ q1, q2, q3, by omega, fun m hm hne => by rw [q5 m (by omega) hne, r5 m (by omega) hne, k1 m hm]⟩
    generalize ((r * c : Nat) : Int) = N at *
    rw [l59_5, den_loop]
    simp [l59_5, b59_4, go_nil, go_last, go_past, go_pastR, go_blkN, go_blkR, go_blkE, go_skip, go_exit, go_ret, go_scope, go_seq, go_reg, go_regd, go_opdN, go_opd, go_opdG, grdd_b, grdd_u, stpd_some, find_some, go_block, go_cond, cnd_b, go_opsN, go_ops, go_opsG, grd_b, grd_u, stp_some, fin_some, up_some, cont_some, k_call, k_mv, k_pick, k_bin, k_eqB, k_eqA, k_not, k_neg, k_conv, k_alloc, k_boxA, k_boxI, k_boxB, k_boxN, k_boxBs, k_ldR, k_ldA, k_ldI, k_ldB, k_stA, k_stI, k_stB, ldC_some, stC_some, k_mkfn, k_slc, k_slcA, k_ixA, k_ixBs, k_ixSl, k_fadr, k_fld, k_ext, k_len, k_app, k_mn, k_mx, k_nilck, k_build, k_bsl1, k_bsl2, b_add, b_sub, b_mul, b_eql, b_neq, b_lss, b_leq, b_gtr, b_geq, Dn.setLast, Dn.getLast, evalO, mapO, Dn.get, putE, keepE, TV.one, TV.isAgg, Dn.part, e1, e2, hbs, hbu, hlen, go_denK (c := l59_3) rfl, r1, g0, g1, g2, g8, g42, g43]

end Go.Proofs.Tryd.Dn

/-
  Knight: open, Check.
-/

namespace Go.Proofs.Tryd.Dn
open Go.Dn

def Tells (pg : Pg) (f : TV) (H : Heap) (P : Int → Bool) : Prop := ∀ v, callRun pg (den pg) .sh [f, .i .i64 v] H = some (.b (P v), H)

theorem l98_all {pg : Pg} (hF : Free pg) {H : Heap} {s f : TV} {l : List Int} {P : Int → Bool} (hs : elI.View H s l) (hf : Tells pg f H P) (hl : l.length ≤ 9223372036854775807) : ∀ (k i : Nat), i + k = l.length →
    ∃ x e, den pg l98_1 [(0, s), (1, f), (7, .i .i64 (l.length : Int)), (8, .i .i64 (i : Int))] H = some ⟨x, e, H⟩ ∧ (x = .exit 0 ∧ firstIdx P (l.drop i) i = -1 ∨ x = .ret ∧ e = [(4, .i .i64 (firstIdx P (l.drop i) i))])
  | 0, i, h => by
    have e1 : ¬ ((i : Int) < (l.length : Int)) := by omega
    refine ⟨.exit 0, [(0, s), (1, f), (7, .i .i64 (l.length : Int)), (8, .i .i64 (i : Int)), (9, .b false)], ?_, .inl ⟨rfl, ?_⟩⟩
    · rw [l98_1, den_loop]
      simp [b98_0, go_nil, go_last, go_past, go_pastR, go_blkN, go_blkR, go_blkE, go_skip, go_exit, go_ret, go_scope, go_seq, go_reg, go_regd, go_opdN, go_opd, go_opdG, grdd_b, grdd_u, stpd_some, find_some, go_block, go_cond, cnd_b, go_opsN, go_ops, go_opsG, grd_b, grd_u, stp_some, fin_some, up_some, cont_some, k_call, k_mv, k_pick, k_bin, k_eqB, k_eqA, k_not, k_neg, k_conv, k_alloc, k_boxA, k_boxI, k_boxB, k_boxN, k_boxBs, k_ldR, k_ldA, k_ldI, k_ldB, k_stA, k_stI, k_stB, ldC_some, stC_some, k_mkfn, k_slc, k_slcA, k_ixA, k_ixBs, k_ixSl, k_fadr, k_fld, k_ext, k_len, k_app, k_mn, k_mx, k_nilck, k_build, k_bsl1, k_bsl2, b_add, b_sub, b_mul, b_eql, b_neq, b_lss, b_leq, b_gtr, b_geq, Dn.setLast, Dn.getLast, evalO, mapO, Dn.get, putE, keepE, TV.one, TV.isAgg, Dn.part, e1]
    · rw [List.drop_eq_nil_of_le (by omega)]; rfl
  | k + 1, i, h => by
    have hi : i < l.length := by omega
    have e1 : ((i : Int) < (l.length : Int)) := by omega
    have e2 : wrapR .i64 ((i : Int) + 1) = .i .i64 ((i : Int) + 1) := wrapR_i64 (by omega)
    obtain ⟨p, hp, hv⟩ := ixI (pg := pg) (R := den pg) hs (List.getElem?_eq_getElem hi)
    have hd : l.drop i = l[i] :: l.drop (i + 1) := List.drop_eq_getElem_cons hi
    rw [hd]
    by_cases hP : P l[i] = true
    · refine ⟨.ret, [(4, .i .i64 (i : Int))], ?_, .inr ⟨rfl, by simp [firstIdx, hP]⟩⟩
      have hc := hf l[i]
      rw [hP] at hc
      rw [l98_1, den_loop]
      simp [b98_0, go_nil, go_last, go_past, go_pastR, go_blkN, go_blkR, go_blkE, go_skip, go_exit, go_ret, go_scope, go_seq, go_reg, go_regd, go_opdN, go_opd, go_opdG, grdd_b, grdd_u, stpd_some, find_some, go_block, go_cond, cnd_b, go_opsN, go_ops, go_opsG, grd_b, grd_u, stp_some, fin_some, up_some, cont_some, k_call, k_mv, k_pick, k_bin, k_eqB, k_eqA, k_not, k_neg, k_conv, k_alloc, k_boxA, k_boxI, k_boxB, k_boxN, k_boxBs, k_ldR, k_ldA, k_ldI, k_ldB, k_stA, k_stI, k_stB, ldC_some, stC_some, k_mkfn, k_slc, k_slcA, k_ixA, k_ixBs, k_ixSl, k_fadr, k_fld, k_ext, k_len, k_app, k_mn, k_mx, k_nilck, k_build, k_bsl1, k_bsl2, b_add, b_sub, b_mul, b_eql, b_neq, b_lss, b_leq, b_gtr, b_geq, Dn.setLast, Dn.getLast, evalO, mapO, Dn.get, putE, keepE, TV.one, TV.isAgg, Dn.part, e1, hp, hv, hc]
    · have hP' : P l[i] = false := by simpa using hP
      have hc := hf l[i]
      rw [hP'] at hc
      obtain ⟨x, e, h1, h2⟩ := l98_all hF hs hf hl k (i + 1) (by omega)
      refine ⟨x, e, Eq.trans ?_ h1, by simpa [firstIdx, hP'] using h2⟩
      rw [l98_1, den_loop]
      simp [l98_1, b98_0, go_nil, go_last, go_past, go_pastR, go_blkN, go_blkR, go_blkE, go_skip, go_exit, go_ret, go_scope, go_seq, go_reg, go_regd, go_opdN, go_opd, go_opdG, grdd_b, grdd_u, stpd_some, find_some, go_block, go_cond, cnd_b, go_opsN, go_ops, go_opsG, grd_b, grd_u, stp_some, fin_some, up_some, cont_some, k_call, k_mv, k_pick, k_bin, k_eqB, k_eqA, k_not, k_neg, k_conv, k_alloc, k_boxA, k_boxI, k_boxB, k_boxN, k_boxBs, k_ldR, k_ldA, k_ldI, k_ldB, k_stA, k_stI, k_stB, ldC_some, stC_some, k_mkfn, k_slc, k_slcA, k_ixA, k_ixBs, k_ixSl, k_fadr, k_fld, k_ext, k_len, k_app, k_mn, k_mx, k_nilck, k_build, k_bsl1, k_bsl2, b_add, b_sub, b_mul, b_eql, b_neq, b_lss, b_leq, b_gtr, b_geq, Dn.setLast, Dn.getLast, evalO, mapO, Dn.get, putE, keepE, TV.one, TV.isAgg, Dn.part, e1, e2, hp, hv, hc]

theorem body98 {pg : Pg} (hF : Free pg) {H : Heap} {s f : TV} {l : List Int} {P : Int → Bool} (hs : elI.View H s l) (hf : Tells pg f H P) (hl : l.length ≤ 9223372036854775807) : bodyRun pg (den pg) 98 [s, f] H = some (.i .i64 (firstIdx P l 0), H) := by
  refine body_of (x := .ret) (e := [(4, .i .i64 (firstIdx P l 0))]) (d := d98) (by rw [hF.F]; rfl) rfl ?_ (.inl rfl) rfl
  obtain ⟨x, e, h1, h2⟩ := l98_all hF hs hf hl l.length 0 (by omega)
  simp only [List.drop_zero, Int.natCast_zero] at h1 h2
  have hlen := hs.lenK
  rcases h2 with ⟨rfl, h2⟩ | ⟨rfl, rfl⟩
  · simp [d98, c98, zipE, go_nil, go_last, go_past, go_pastR, go_blkN, go_blkR, go_blkE, go_skip, go_exit, go_ret, go_scope, go_seq, go_reg, go_regd, go_opdN, go_opd, go_opdG, grdd_b, grdd_u, stpd_some, find_some, go_block, go_cond, cnd_b, go_opsN, go_ops, go_opsG, grd_b, grd_u, stp_some, fin_some, up_some, cont_some, k_call, k_mv, k_pick, k_bin, k_eqB, k_eqA, k_not, k_neg, k_conv, k_alloc, k_boxA, k_boxI, k_boxB, k_boxN, k_boxBs, k_ldR, k_ldA, k_ldI, k_ldB, k_stA, k_stI, k_stB, ldC_some, stC_some, k_mkfn, k_slc, k_slcA, k_ixA, k_ixBs, k_ixSl, k_fadr, k_fld, k_ext, k_len, k_app, k_mn, k_mx, k_nilck, k_build, k_bsl1, k_bsl2, b_add, b_sub, b_mul, b_eql, b_neq, b_lss, b_leq, b_gtr, b_geq, Dn.setLast, Dn.getLast, evalO, mapO, Dn.get, putE, keepE, TV.one, TV.isAgg, Dn.part, hlen, go_den l98_1, h1, h2]
  · simp [d98, c98, zipE, go_nil, go_last, go_past, go_pastR, go_blkN, go_blkR, go_blkE, go_skip, go_exit, go_ret, go_scope, go_seq, go_reg, go_regd, go_opdN, go_opd, go_opdG, grdd_b, grdd_u, stpd_some, find_some, go_block, go_cond, cnd_b, go_opsN, go_ops, go_opsG, grd_b, grd_u, stp_some, fin_some, up_some, cont_some, k_call, k_mv, k_pick, k_bin, k_eqB, k_eqA, k_not, k_neg, k_conv, k_alloc, k_boxA, k_boxI, k_boxB, k_boxN, k_boxBs, k_ldR, k_ldA, k_ldI, k_ldB, k_stA, k_stI, k_stB, ldC_some, stC_some, k_mkfn, k_slc, k_slcA, k_ixA, k_ixBs, k_ixSl, k_fadr, k_fld, k_ext, k_len, k_app, k_mn, k_mx, k_nilck, k_build, k_bsl1, k_bsl2, b_add, b_sub, b_mul, b_eql, b_neq, b_lss, b_leq, b_gtr, b_geq, Dn.setLast, Dn.getLast, evalO, mapO, Dn.get, putE, keepE, TV.one, TV.isAgg, Dn.part, hlen, go_den l98_1, h1]

theorem body86 {pg : Pg} (hF : Free pg) {H : Heap} {s f : TV} {l : List Int} {P : Int → Bool} (hs : elI.View H s l) (hf : Tells pg f H P) (hl : l.length ≤ 9223372036854775807) : bodyRun pg (den pg) 86 [s, f] H = some (.b (l.any P), H) := by
  refine body_of (x := .ret) (e := [(4, .b (l.any P))]) (d := d86) (by rw [hF.F]; rfl) rfl ?_ (.inl rfl) rfl
  have h := body98 hF hs hf hl
  simp [d86, c86, zipE, go_nil, go_last, go_past, go_pastR, go_blkN, go_blkR, go_blkE, go_skip, go_exit, go_ret, go_scope, go_seq, go_reg, go_regd, go_opdN, go_opd, go_opdG, grdd_b, grdd_u, stpd_some, find_some, go_block, go_cond, cnd_b, go_opsN, go_ops, go_opsG, grd_b, grd_u, stp_some, fin_some, up_some, cont_some, k_call, k_mv, k_pick, k_bin, k_eqB, k_eqA, k_not, k_neg, k_conv, k_alloc, k_boxA, k_boxI, k_boxB, k_boxN, k_boxBs, k_ldR, k_ldA, k_ldI, k_ldB, k_stA, k_stI, k_stB, ldC_some, stC_some, k_mkfn, k_slc, k_slcA, k_ixA, k_ixBs, k_ixSl, k_fadr, k_fld, k_ext, k_len, k_app, k_mn, k_mx, k_nilck, k_build, k_bsl1, k_bsl2, b_add, b_sub, b_mul, b_eql, b_neq, b_lss, b_leq, b_gtr, b_geq, Dn.setLast, Dn.getLast, evalO, mapO, Dn.get, putE, keepE, TV.one, TV.isAgg, Dn.part, sh_fn, h, firstIdx_any]


def bM (r c : Nat) : List TV := bC r c (mvTo r c (r * c))

def outB (n : Int) (v : Int) : Bool := decide (v < 0) || decide (n ≤ v)

theorem body87 {pg : Pg} (hF : Free pg) {r c B X : Nat} {f : Nat → Nat} {H : Heap} (hB : H[B]? = some (.cells (bC r c f) true)) (hX : H[X]? = some (.cells [.ref B 0] false)) (v : Int) :
    bodyRun pg (den pg) 87 [.i .i64 v, .ref X 0] H = some (.b (outB ((r * c : Nat) : Int) v), H) := by
  have l1 := ld_box (pg := pg) (R := den pg) hX rfl
  have l2 := ld_n (pg := pg) (R := den pg) hB
  refine body_of (x := .ret) (e := [(3, .b (outB ((r * c : Nat) : Int) v))]) (d := d87) (by rw [hF.F]; rfl) rfl ?_ (.inl rfl) rfl
  unfold outB
  generalize ((r * c : Nat) : Int) = N at *
  by_cases h : v < 0
  · simp [d87, c87, zipE, go_nil, go_last, go_past, go_pastR, go_blkN, go_blkR, go_blkE, go_skip, go_exit, go_ret, go_scope, go_seq, go_reg, go_regd, go_opdN, go_opd, go_opdG, grdd_b, grdd_u, stpd_some, find_some, go_block, go_cond, cnd_b, go_opsN, go_ops, go_opsG, grd_b, grd_u, stp_some, fin_some, up_some, cont_some, k_call, k_mv, k_pick, k_bin, k_eqB, k_eqA, k_not, k_neg, k_conv, k_alloc, k_boxA, k_boxI, k_boxB, k_boxN, k_boxBs, k_ldR, k_ldA, k_ldI, k_ldB, k_stA, k_stI, k_stB, ldC_some, stC_some, k_mkfn, k_slc, k_slcA, k_ixA, k_ixBs, k_ixSl, k_fadr, k_fld, k_ext, k_len, k_app, k_mn, k_mx, k_nilck, k_build, k_bsl1, k_bsl2, b_add, b_sub, b_mul, b_eql, b_neq, b_lss, b_leq, b_gtr, b_geq, Dn.setLast, Dn.getLast, evalO, mapO, Dn.get, putE, keepE, TV.one, TV.isAgg, Dn.part, h]
  · simp [d87, c87, zipE, go_nil, go_last, go_past, go_pastR, go_blkN, go_blkR, go_blkE, go_skip, go_exit, go_ret, go_scope, go_seq, go_reg, go_regd, go_opdN, go_opd, go_opdG, grdd_b, grdd_u, stpd_some, find_some, go_block, go_cond, cnd_b, go_opsN, go_ops, go_opsG, grd_b, grd_u, stp_some, fin_some, up_some, cont_some, k_call, k_mv, k_pick, k_bin, k_eqB, k_eqA, k_not, k_neg, k_conv, k_alloc, k_boxA, k_boxI, k_boxB, k_boxN, k_boxBs, k_ldR, k_ldA, k_ldI, k_ldB, k_stA, k_stI, k_stB, ldC_some, stC_some, k_mkfn, k_slc, k_slcA, k_ixA, k_ixBs, k_ixSl, k_fadr, k_fld, k_ext, k_len, k_app, k_mn, k_mx, k_nilck, k_build, k_bsl1, k_bsl2, b_add, b_sub, b_mul, b_eql, b_neq, b_lss, b_leq, b_gtr, b_geq, Dn.setLast, Dn.getLast, evalO, mapO, Dn.get, putE, keepE, TV.one, TV.isAgg, Dn.part, h, l1, l2]

theorem fresh_bC (r c : Nat) : (List.range 36).map (fun s => TV.i .u64 ((mvTo r c 0 s : Nat) : Int)) = List.replicate 36 (.i .u64 0) := by
  apply List.ext_getElem?
  intro i
  by_cases h : i < 36
  · rw [List.getElem?_map, List.getElem?_range h, List.getElem?_replicate, if_pos h]; simp [mvTo]
  · rw [List.getElem?_eq_none (by simp; omega), List.getElem?_eq_none (by simp; omega)]

theorem okB {r c : Nat} (h : Brd r c) : ((if c < r then (c : Int) else (r : Int)) < 1) = False ∧ (8 < (if r < c then (c : Int) else (r : Int))) = False := by
  have := h.r1; have := h.c1; have := h.r8; have := h.c8
  constructor
  · simp only [eq_iff_iff, iff_false]; split <;> omega
  · simp only [eq_iff_iff, iff_false]; split <;> omega

theorem body59 {pg : Pg} (hF : Free pg) {r c : Nat} (h : Brd r c) {t : TV} {ps : List Int} {H : Heap} (ht : elI.View H t ps) (hl : ps.length ≤ 9223372036854775807) :
    ∃ H', bodyRun pg (den pg) 59 [.i .i64 (r : Int), .i .i64 (c : Int), t] H = some (if ps.any (outB ((r * c : Nat) : Int)) then .tup [.nilp, .i .i64 1] else .tup [.ref H.length 0, .i .i64 0], H') ∧
      H'[H.length]? = some (.cells (bM r c) true) ∧ H.length < H'.length ∧ ∀ m, m < H.length → H'[m]? = H[m]? := by
  have hn := h.n36
  have hcast : ((r * c : Nat) : Int) = (r : Int) * c := by simp
  obtain ⟨k1, k2⟩ := okB h
  have wn : wrapR .i64 ((r : Int) * (c : Int)) = .i .i64 ((r : Int) * (c : Int)) := wrapR_i64 (by rw [← hcast]; omega)
  have k3 : ¬ (36 < (r : Int) * (c : Int)) := by rw [← hcast]; omega
  obtain ⟨H0, hH0⟩ : ∃ H0, H0 = H ++ [.cells (bC r c (mvTo r c 0)) true] := ⟨_, rfl⟩
  have hH0l : H0.length = H.length + 1 := by rw [hH0]; simp
  obtain ⟨H1, hH1⟩ : ∃ H1, H1 = H0 ++ [.cells [.ref H.length 0] false] := ⟨_, rfl⟩
  have hH1l : H1.length = H.length + 2 := by rw [hH1]; simp [hH0l]
  have hbu : dkc pg (den pg) (.build [(.i .i64 0), (.i .i64 0), (.i .i64 0), (.i .u64 0), (.i .u64 0), (.i .u64 0), (.i .u64 0), (.i .u64 0), (.i .u64 0), (.i .u64 0), (.i .u64 0), (.i .u64 0), (.i .u64 0), (.i .u64 0), (.i .u64 0), (.i .u64 0), (.i .u64 0), (.i .u64 0), (.i .u64 0), (.i .u64 0), (.i .u64 0), (.i .u64 0), (.i .u64 0), (.i .u64 0), (.i .u64 0), (.i .u64 0), (.i .u64 0), (.i .u64 0), (.i .u64 0), (.i .u64 0), (.i .u64 0), (.i .u64 0), (.i .u64 0), (.i .u64 0), (.i .u64 0), (.i .u64 0), (.i .u64 0), (.i .u64 0), (.i .u64 0)] [(0, 1), (1, 1), (2, 1)]) [.i .i64 (r : Int), .i .i64 (c : Int), .i .i64 ((r : Int) * (c : Int))] H = some (.agg (bC r c (mvTo r c 0)), H) := by
    unfold bC
    rw [fresh_bC, hcast]
    rfl
  have hbx : dkc pg (den pg) (.box true) [.agg (bC r c (mvTo r c 0))] H = some (.ref H.length 0, H0) := by
    rw [k_boxA _ _ (by unfold bC; rw [fresh_bC]; simp [TV.one]), hH0]
  have st8 := st_box (pg := pg) (R := den pg) (H := H0 ++ [.cells [.nilp] false]) (id := H0.length) (v := .ref H.length 0) (getLast _ _) rfl
  rw [Dn.setLast, ← hH1, hH0l] at st8
  have hB1 : H1[H.length]? = some (.cells (bC r c (mvTo r c 0)) true) := by rw [hH1, List.getElem?_append_left (by omega), hH0]; exact getLast _ _
  have hX1 : H1[H.length + 1]? = some (.cells [.ref H.length 0] false) := by rw [hH1, ← hH0l]; exact getLast _ _
  have l1 := ld_box (pg := pg) (R := den pg) hX1 rfl
  have l2 := ld_n (pg := pg) (R := den pg) hB1
  obtain ⟨e, H2, r1, r2, r3, r4, r5⟩ := l59_5_all (pg := pg) (B := H.length) h (Q := t) (r * c) 0 H1 (by omega) hB1 hX1
  have kH : ∀ m, m < H.length → H2[m]? = H[m]? := fun m hm => by
    rw [r5 m (by omega) (by omega), hH1, List.getElem?_append_left (by omega), hH0, List.getElem?_append_left hm]
  have hX2 : H2[H.length + 1]? = some (.cells [.ref H.length 0] false) := by rw [r5 _ (by omega) (by omega)]; exact hX1
  have ht2 : elI.View H2 t ps := ht.mono fun id hid => kH id (ht.lt id hid)
  have htl : Tells pg (.fn 87 [] [.ref (H.length + 1) 0]) H2 (outB ((r * c : Nat) : Int)) := fun v => by rw [sh_fn]; exact body87 hF r3 hX2 v
  have b86 := body86 hF ht2 htl hl
  have l3 := ld_box (pg := pg) (R := den pg) hX2 rfl
  have g2 := keep_get r2 (s := 2) (by simp) rfl
  have g8 := keep_get r2 (s := 8) (by simp) rfl
  have hd : pg.F 59 = some d59 := by rw [hF.F]; rfl
  simp only [Int.natCast_zero] at r1
  generalize ps.any (outB ((r * c : Nat) : Int)) = any at *
  refine ⟨H2, ?_, r3, by omega, kH⟩
  rw [← hcast] at wn k3 hbu
  have hmul : (r : Int) * (c : Int) = ((r * c : Nat) : Int) := hcast.symm
  generalize ((r * c : Nat) : Int) = N at *
  cases any with
  | true =>
    refine body_ofs (x := .ret) (e := [(6, .nilp), (7, .i .i64 1)]) (vs := [.nilp, .i .i64 1]) hd rfl ?_ (.inl rfl) rfl
    simp [d59, c59, zipE, go_nil, go_last, go_past, go_pastR, go_blkN, go_blkR, go_blkE, go_skip, go_exit, go_ret, go_scope, go_seq, go_reg, go_regd, go_opdN, go_opd, go_opdG, grdd_b, grdd_u, stpd_some, find_some, go_block, go_cond, cnd_b, go_opsN, go_ops, go_opsG, grd_b, grd_u, stp_some, fin_some, up_some, cont_some, k_call, k_mv, k_pick, k_bin, k_eqB, k_eqA, k_not, k_neg, k_conv, k_alloc, k_boxA, k_boxI, k_boxB, k_boxN, k_boxBs, k_ldR, k_ldA, k_ldI, k_ldB, k_stA, k_stI, k_stB, ldC_some, stC_some, k_mkfn, k_slc, k_slcA, k_ixA, k_ixBs, k_ixSl, k_fadr, k_fld, k_ext, k_len, k_app, k_mn, k_mx, k_nilck, k_build, k_bsl1, k_bsl2, b_add, b_sub, b_mul, b_eql, b_neq, b_lss, b_leq, b_gtr, b_geq, Dn.setLast, Dn.getLast, evalO, mapO, Dn.get, putE, keepE, TV.one, TV.isAgg, Dn.part, k1, k2, wn, hmul, k3, hbu, hbx, hH0l, st8, l1, l2, go_denK (c := l59_5) rfl, r1, g2, g8, sh_fn, b86]
  | false =>
    refine body_ofs (x := .ret) (e := [(6, .ref H.length 0), (7, .i .i64 0)]) (vs := [.ref H.length 0, .i .i64 0]) hd rfl ?_ (.inl rfl) rfl
    simp [d59, c59, zipE, go_nil, go_last, go_past, go_pastR, go_blkN, go_blkR, go_blkE, go_skip, go_exit, go_ret, go_scope, go_seq, go_reg, go_regd, go_opdN, go_opd, go_opdG, grdd_b, grdd_u, stpd_some, find_some, go_block, go_cond, cnd_b, go_opsN, go_ops, go_opsG, grd_b, grd_u, stp_some, fin_some, up_some, cont_some, k_call, k_mv, k_pick, k_bin, k_eqB, k_eqA, k_not, k_neg, k_conv, k_alloc, k_boxA, k_boxI, k_boxB, k_boxN, k_boxBs, k_ldR, k_ldA, k_ldI, k_ldB, k_stA, k_stI, k_stB, ldC_some, stC_some, k_mkfn, k_slc, k_slcA, k_ixA, k_ixBs, k_ixSl, k_fadr, k_fld, k_ext, k_len, k_app, k_mn, k_mx, k_nilck, k_build, k_bsl1, k_bsl2, b_add, b_sub, b_mul, b_eql, b_neq, b_lss, b_leq, b_gtr, b_geq, Dn.setLast, Dn.getLast, evalO, mapO, Dn.get, putE, keepE, TV.one, TV.isAgg, Dn.part, k1, k2, wn, hmul, k3, hbu, hbx, hH0l, st8, l1, l2, go_denK (c := l59_5) rfl, r1, g2, g8, sh_fn, b86, l3]

end Go.Proofs.Tryd.Dn

/-
  Knight: the squares of a set, listed; the moves.
-/

namespace Go.Proofs.Tryd.Dn
open Go.Dn

def nI (l : List Nat) : List Int := l.map fun (n : Nat) => (n : Int)
theorem nI_len (l : List Nat) : (nI l).length = l.length := by simp [nI]
theorem mem64_le (x : Nat) : (mem64 x).length ≤ 64 := by rw [mem64_len]; exact pop_le _ _

structure Acc (A lp : Nat) (H0 H : Heap) (m : List Int) : Prop where
  cell : ∃ R, H[A]? = some (.cells [R] false) ∧ elI.Own H R m ∧ ∀ id, R.idOf = some id → lp < id
  len : lp < H.length
  old : ∀ j, j < A → H[j]? = H0[j]?

theorem Acc.set {A lp : Nat} {H0 H : Heap} {m : List Int} (h : Acc A lp H0 H m) {s : Nat} (h1 : A < s) (h2 : s ≤ lp) (o : AObj) : Acc A lp H0 (H.set s o) m := by
  obtain ⟨R, r1, r2, r3⟩ := h.cell
  exact ⟨⟨R, by rw [List.getElem?_set_ne (by omega)]; exact r1, r2.mono fun id hid => by have := r3 id hid; rw [List.getElem?_set_ne (by omega)], r3⟩, by have := h.len; simpa using this, fun j hj => by rw [List.getElem?_set_ne (by omega)]; exact h.old j hj⟩

theorem Acc.push {pg : Pg} {A lp : Nat} {H0 H : Heap} {m : List Int} (h : Acc A lp H0 H m) (hA : A < lp) (v : Int) (hb : m.length + 1 ≤ 1000000) : ∃ R R' H' H2, dkc pg (den pg) (.ld 1 false) [.ref A 0] H = some (R, H) ∧ appRun 1 false 8 R (.sl H.length 0 1 false 1 (some 1)) (H ++ [.cells [.i .i64 v] false]) = some (R', H') ∧ dkc pg (den pg) (.st 1) [.ref A 0, R'] H' = some (.undef, H2) ∧
    Acc A lp H0 H2 (m ++ [v]) ∧ (∀ j, j < H.length → j ≠ A → (∀ R, H[A]? = some (.cells [R] false) → R.idOf ≠ some j) → H2[j]? = H[j]?) ∧ H.length ≤ H2.length ∧ (∀ j, j ≤ lp → j ≠ A → H2[j]? = H[j]?) := by
  obtain ⟨R, r1, r2, r3⟩ := h.cell
  have hAl := (List.getElem?_eq_some_iff.1 r1).1
  have hl := h.len
  obtain ⟨R', H', h1, h2, h3, h4, h5⟩ := appI (r2.mono (H' := H ++ [.cells [.i .i64 v] false]) fun id hid => by rw [List.getElem?_append_left (r2.lt id hid)]) (one_view H v) (by simpa using hb)
  have hl' : H.length + 1 ≤ H'.length := by simpa using h3
  have kj : ∀ j, j < H.length → R.idOf ≠ some j → H'[j]? = H[j]? := fun j hj hne => by
    rw [h4 j (by simp; omega) hne, List.getElem?_append_left hj]
  have r3' : ∀ id, R'.idOf = some id → lp < id := fun id hid => by
    rcases h5 with rfl | h5
    · exact r3 id hid
    · have := h5 id hid; simp at this; omega
  have hA' : H'[A]? = some (.cells [R] false) := by rw [kj A hAl (fun he => by have := r3 A he; omega)]; exact r1
  refine ⟨R, R', H', H'.set A (.cells [R'] false), ld_box r1 (by rcases r2 with ⟨rfl, _⟩ | ⟨_, id, ag, c, rfl, _⟩ <;> rfl), h1, st_box hA' (by rcases h2 with ⟨rfl, _⟩ | ⟨_, id, ag, c, rfl, _⟩ <;> rfl), ⟨⟨R', ?_, ?_, r3'⟩, by simp; omega, fun j hj => ?_⟩, fun j hj hne hR => ?_, by simp; omega, fun j hj hne => ?_⟩
  · rw [List.getElem?_set_self (by omega)]
  · exact h2.mono fun id hid => by have := r3' id hid; rw [List.getElem?_set_ne (by omega)]
  · rw [List.getElem?_set_ne (by omega), kj j (by omega) (fun he => by have := r3 j he; omega)]; exact h.old j hj
  · rw [List.getElem?_set_ne (by omega), kj j hj (hR R r1)]
  · rw [List.getElem?_set_ne (by omega), kj j (by omega) (fun he => by have := r3 j he; omega)]

theorem body64 {pg : Pg} (hF : Free pg) {x : Nat} (hx : x < 18446744073709551616) (H : Heap) : ∃ R H', bodyRun pg (den pg) 64 [.i .u64 (x : Int)] H = some (R, H') ∧ elI.Own H' R (nI (mem64 x)) ∧ H.length ≤ H'.length ∧ (∀ j, j < H.length → H'[j]? = H[j]?) ∧ ∀ id, R.idOf = some id → H.length ≤ id := by
  obtain ⟨A, hA⟩ : ∃ A, A = H.length := ⟨_, rfl⟩
  obtain ⟨H1, hH1⟩ : ∃ H1, H1 = H ++ [.cells [.nilsl] false] := ⟨_, rfl⟩
  have l1 : H1.length = A + 1 := by rw [hH1, hA]; simp
  obtain ⟨H2, hH2⟩ : ∃ H2, H2 = H1 ++ [.cells [.i .u64 (x : Int)] false] := ⟨_, rfl⟩
  have l2 : H2.length = A + 2 := by rw [hH2]; simp [l1]
  have b63 := body63 hF x H1
  rw [l1, ← hH2] at b63
  have hle := mem64_le x
  obtain ⟨L, hL⟩ : ∃ L, L = lp1 a64_0 b64_1 7 [3] [(3, .ref A 0), (6, .fn 93 [] [.ref (A + 1) 0])] := ⟨_, rfl⟩
  have hinit : Acc A (A + 2) H (H2 ++ [.loop L]) [] := by
    refine ⟨⟨.nilsl, ?_, .inl ⟨rfl, rfl⟩, fun id h => (by cases h)⟩, by simp [l2], fun j hj => ?_⟩
    · rw [List.getElem?_append_left (by omega), hH2, List.getElem?_append_left (by omega), hH1, hA]; exact getLast _ _
    · rw [List.getElem?_append_left (by omega), hH2, List.getElem?_append_left (by omega), hH1, List.getElem?_append_left (by omega)]
  have hR : Rnd pg (A + 2) (A + 1) L (fun l H' => ∃ m, Acc A (A + 2) H H' m ∧ m ++ nI l = nI (mem64 x)) (fun _ _ => False) := by
    rintro k rest H3 ⟨m, hm, he⟩ hlp hk
    have hml : m.length + 1 ≤ 1000000 := by
      have := congrArg List.length he
      rw [List.length_append, nI_len, nI_len, List.length_cons] at this
      omega
    obtain ⟨HB, hHB⟩ : ∃ HB, HB = H3.set (A + 2) (.loop { L with st := .busy }) := ⟨_, rfl⟩
    have hmB : Acc A (A + 2) H HB m := by rw [hHB]; exact hm.set (by omega) (by omega) _
    obtain ⟨R, R', H4, H5, p1, p2, p3, p4, _, p5, p6⟩ := hmB.push (pg := pg) (by omega) (k : Int) hml
    have hlt := hm.len
    have hlB : HB[A + 2]? = some (.loop { L with st := .busy }) := by rw [hHB, List.getElem?_set_self hlt]
    have ha : den pg a64_0 ((([7] : List Nat).zip [.i .i64 (k : Int)]).reverse ++ [(3, .ref A 0)]) H3 = some ⟨.normal, [(3, .ref A 0), (4, .i .i64 (k : Int))], H3⟩ := by
      rw [den_eq, runC_go]
      simp [a64_0, go_nil, go_last, go_past, go_pastR, go_blkN, go_blkR, go_blkE, go_skip, go_exit, go_ret, go_scope, go_seq, go_reg, go_regd, go_opdN, go_opd, go_opdG, grdd_b, grdd_u, stpd_some, find_some, go_block, go_cond, cnd_b, go_opsN, go_ops, go_opsG, grd_b, grd_u, stp_some, fin_some, up_some, cont_some, k_call, k_mv, k_pick, k_bin, k_eqB, k_eqA, k_not, k_neg, k_conv, k_alloc, k_boxA, k_boxI, k_boxB, k_boxN, k_boxBs, k_ldR, k_ldA, k_ldI, k_ldB, k_stA, k_stI, k_stB, ldC_some, stC_some, k_mkfn, k_slc, k_slcA, k_ixA, k_ixBs, k_ixSl, k_fadr, k_fld, k_ext, k_len, k_app, k_mn, k_mx, k_nilck, k_build, k_bsl1, k_bsl2, b_add, b_sub, b_mul, b_eql, b_neq, b_lss, b_leq, b_gtr, b_geq, Dn.setLast, Dn.getLast, evalO, mapO, Dn.get, putE, keepE, TV.one, TV.isAgg, Dn.part]
    have hb : den pg b64_1 [(3, .ref A 0), (4, .i .i64 (k : Int))] HB = some ⟨.normal, [], H5⟩ := by
      rw [den_eq, runC_go]
      simp [b64_1, go_nil, go_last, go_past, go_pastR, go_blkN, go_blkR, go_blkE, go_skip, go_exit, go_ret, go_scope, go_seq, go_reg, go_regd, go_opdN, go_opd, go_opdG, grdd_b, grdd_u, stpd_some, find_some, go_block, go_cond, cnd_b, go_opsN, go_ops, go_opsG, grd_b, grd_u, stp_some, fin_some, up_some, cont_some, k_call, k_mv, k_pick, k_bin, k_eqB, k_eqA, k_not, k_neg, k_conv, k_alloc, k_boxA, k_boxI, k_boxB, k_boxN, k_boxBs, k_ldR, k_ldA, k_ldI, k_ldB, k_stA, k_stI, k_stB, ldC_some, stC_some, k_mkfn, k_slc, k_slcA, k_ixA, k_ixBs, k_ixSl, k_fadr, k_fld, k_ext, k_len, k_app, k_mn, k_mx, k_nilck, k_build, k_bsl1, k_bsl2, b_add, b_sub, b_mul, b_eql, b_neq, b_lss, b_leq, b_gtr, b_geq, Dn.setLast, Dn.getLast, evalO, mapO, Dn.get, putE, keepE, TV.one, TV.isAgg, Dn.part, p1, p2, p3]
    refine .inl ⟨H5.set (A + 2) (.loop L), Body.of (e1 := [(3, .ref A 0), (4, .i .i64 (k : Int))]) (e2 := []) (by rw [hL]; exact ha) hlp (by rw [← hHB, hL]; exact hb) (by rw [p6 _ (by omega) (by omega)]; exact hlB), ⟨m ++ [(k : Int)], p4.set (by omega) (by omega) _, ?_⟩, ?_⟩
    · rw [List.append_assoc]; exact he
    · rw [List.getElem?_set_ne (by omega), p6 _ (by omega) (by omega), hHB, List.getElem?_set_ne (by omega)]
  have hd : pg.F 64 = some d64 := by rw [hF.F]; rfl
  rcases rng hF (f := 6) (s := A + 1) (p := 7) (as_ := a64_0) (bd := b64_1) (ks := [3]) (e := [(3, .ref A 0), (6, .fn 93 [] [.ref (A + 1) 0])]) (H := H2) rfl (by rw [hH2, ← l1]; exact getLast _ _) hx
      (P := fun l H' => ∃ m, Acc A (A + 2) H H' m ∧ m ++ nI l = nI (mem64 x)) (Q := fun _ _ => False) (by rw [← hL]; exact ⟨[], hinit, rfl⟩) (fun l H' c ⟨m, h1, h2⟩ => ⟨m, h1.set (by omega) (by omega) c, h2⟩) (by rw [l2, ← hL]; exact hR) with ⟨H3, r1, m, r2, r3⟩ | ⟨_, _, _, _, h⟩
  · rw [l2] at r1
    rw [← hL] at r1
    have r2' := r2.set (s := A + 2) (by omega) (by omega) (.loop { L with st := .exhausted })
    obtain ⟨H4, hH4⟩ : ∃ H4, H4 = H3.set (A + 2) (.loop { L with st := .exhausted }) := ⟨_, rfl⟩
    rw [← hH4] at r1 r2'
    obtain ⟨R, q1, q2, q3⟩ := r2'.cell
    have lR := ld_box (pg := pg) (R := den pg) q1 (by rcases q2 with ⟨rfl, _⟩ | ⟨_, id, ag, c, rfl, _⟩ <;> rfl)
    rw [show nI [] = ([] : List Int) from rfl, List.append_nil] at r3
    subst r3
    have hll := r2'.len
    refine ⟨R, H4, body_of (x := .ret) (e := [(2, R)]) hd rfl ?_ (.inl rfl) rfl, q2, by omega, fun j hj => r2'.old j (by omega), fun id hid => by have := q3 id hid; omega⟩
    have hkk : keepE [3] ([(3, .ref A 0), (6, .fn 93 [] [.ref (A + 1) 0])] : Env) = [(3, .ref A 0)] := rfl
    rw [hkk] at r1
    simp [d64, c64, zipE, go_nil, go_last, go_past, go_pastR, go_blkN, go_blkR, go_blkE, go_skip, go_exit, go_ret, go_scope, go_seq, go_reg, go_regd, go_opdN, go_opd, go_opdG, grdd_b, grdd_u, stpd_some, find_some, go_block, go_cond, cnd_b, go_opsN, go_ops, go_opsG, grd_b, grd_u, stp_some, fin_some, up_some, cont_some, k_call, k_mv, k_pick, k_bin, k_eqB, k_eqA, k_not, k_neg, k_conv, k_alloc, k_boxA, k_boxI, k_boxB, k_boxN, k_boxBs, k_ldR, k_ldA, k_ldI, k_ldB, k_stA, k_stI, k_stB, ldC_some, stC_some, k_mkfn, k_slc, k_slcA, k_ixA, k_ixBs, k_ixSl, k_fadr, k_fld, k_ext, k_len, k_app, k_mn, k_mx, k_nilck, k_build, k_bsl1, k_bsl2, b_add, b_sub, b_mul, b_eql, b_neq, b_lss, b_leq, b_gtr, b_geq, Dn.setLast, Dn.getLast, evalO, mapO, Dn.get, putE, keepE, TV.one, TV.isAgg, Dn.part, ← hH1, ← hA, sh_fn, b63, r1, lR]
  · exact h.elim

end Go.Proofs.Tryd.Dn

