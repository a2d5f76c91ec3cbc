/-
  PriceKonues: the whole run answers true.
-/
import Derived.Test.YtgmlmmgpcbollaaDoorQj
set_option linter.unusedSimpArgs false
set_option linter.unusedVariables false

namespace Go.Proofs.Tryd.Dn
open Go.Dn

theorem low_le {x y z : Nat} (hy : 1 ≤ y) : x / Nat.gcd x y * y ≤ z * (y / Nat.gcd x y) ↔ x ≤ z := by
  have hg : 0 < Nat.gcd x y := Nat.gcd_pos_of_pos_right _ (by omega)
  have h1 := Nat.div_mul_cancel (Nat.gcd_dvd_left x y)
  have h2 := Nat.div_mul_cancel (Nat.gcd_dvd_right x y)
  have h3 : 0 < y / Nat.gcd x y := by
    rcases Nat.eq_zero_or_pos (y / Nat.gcd x y) with h | h
    · rw [h, Nat.zero_mul] at h2; omega
    · exact h
  have h4 : x / Nat.gcd x y * y = x * (y / Nat.gcd x y) := by
    calc x / Nat.gcd x y * y = x / Nat.gcd x y * (y / Nat.gcd x y * Nat.gcd x y) := by rw [h2]
      _ = x / Nat.gcd x y * Nat.gcd x y * (y / Nat.gcd x y) := by rw [Nat.mul_comm (y / Nat.gcd x y), Nat.mul_assoc]
      _ = x * (y / Nat.gcd x y) := by rw [h1]
  rw [h4]
  exact ⟨fun h => Nat.le_of_mul_le_mul_right h h3, fun h => Nat.mul_le_mul_right _ h⟩

theorem low_pos {x y : Nat} (hx : 1 ≤ x) : 1 ≤ x / Nat.gcd x y ∧ 1 ≤ x / Nat.gcd y x ∧ x / Nat.gcd x y ≤ x ∧ x / Nat.gcd y x ≤ x := by
  have h1 := Nat.div_mul_cancel (Nat.gcd_dvd_left x y)
  rw [Nat.gcd_comm y x]
  have h3 : 0 < x / Nat.gcd x y := by
    rcases Nat.eq_zero_or_pos (x / Nat.gcd x y) with h | h
    · rw [h, Nat.zero_mul] at h1; omega
    · exact h
  have := Nat.div_le_self x (Nat.gcd x y)
  omega

theorem ldq {pg : Pg} {R : Rec} {H : Heap} {id : Nat} {p q r s : Int} (h : H[id]? = some (.cells [.i .i64 p, .i .i64 q, .i .i64 r, .i .i64 s] true)) :
    dkc pg R (.ld 1 false) [.ref id 0] H = some (.i .i64 p, H) ∧ dkc pg R (.ld 1 false) [.ref id 1] H = some (.i .i64 q, H) ∧ dkc pg R (.ld 1 false) [.ref id 2] H = some (.i .i64 r, H) ∧ dkc pg R (.ld 1 false) [.ref id 3] H = some (.i .i64 s, H) := by
  refine ⟨?_, ?_, ?_, ?_⟩ <;> · rw [k_ldR, h, ldC_some]; simp [Dn.part, TV.isAgg, up]

theorem pref_le (X : List Obs) (i k : Nat) : 0 < pref X 1 1 i k ↔ costOf X i k ≤ costOf X i i := by
  unfold pref
  rw [Int.one_mul, Int.one_mul]
  split
  · omega
  · split
    · omega
    · omega

theorem l11_1_all {pg : Pg} {X : List Obs} (hn5 : X.length ≤ 5) {H : Heap} : ∀ (d i : Nat), i + d = X.length →
    ∃ e, den pg l11_1 [(5, (elS false).lt false X), (6, (elS false).lt false X), (7, (elR false).lt false (costs X)), (9, (elR false).lt false (prefs X 1 1)), (11, .i .i64 (i : Int))] H = some ⟨.exit 0, e, H⟩ ∧
      keepE [5, 6, 7, 9] e = [(5, (elS false).lt false X), (6, (elS false).lt false X), (7, (elR false).lt false (costs X)), (9, (elR false).lt false (prefs X 1 1))]
  | 0, i, h => by
    have e1 : ¬ ((i : Int) < (X.length : Int)) := by omega
    have hlen := El.lt_len (E := elS false) false X
    refine ⟨[(5, (elS false).lt false X), (6, (elS false).lt false X), (7, (elR false).lt false (costs X)), (9, (elR false).lt false (prefs X 1 1)), (11, .i .i64 (i : Int)), (58, .b false)], ?_, rfl⟩
    rw [l11_1, den_loop]
    simp [b11_0, go_nil, go_last, go_past, go_pastR, go_blkN, go_blkR, go_blkE, go_skip, go_exit, go_ret, go_scope, go_seq, go_reg, go_block, go_cond, cnd_b, go_opsN, go_ops, go_opsG, grd_b, grd_u, stp_some, fin_some, up_some, cont_some, k_call, k_mv, k_pick, k_bin, k_eqB, k_eqA, k_not, k_neg, k_conv, k_alloc, k_boxA, k_boxI, k_boxB, k_boxN, k_boxBs, k_ldR, k_ldA, k_ldI, k_ldB, k_stA, k_stI, k_stB, ldC_some, stC_some, k_mkfn, k_slc, k_slcA, k_ixA, k_ixBs, k_ixSl, k_fadr, k_fld, k_ext, k_len, k_app, k_mn, k_mx, k_nilck, k_build, k_bsl1, k_bsl2, b_add, b_sub, b_mul, b_eql, b_neq, b_lss, b_leq, b_gtr, b_geq, Dn.setLast, Dn.getLast, evalO, mapO, Dn.get, putE, keepE, TV.one, TV.isAgg, Dn.part, hlen, e1]
  | d + 1, i, h => by
    have hi : i < X.length := by omega
    have e1 : ((i : Int) < (X.length : Int)) := by omega
    have e2 : wrapR .i64 ((i : Int) + 1) = .i .i64 ((i : Int) + 1) := wrapR_i64 (by omega)
    have hlen := El.lt_len (E := elS false) false X
    obtain ⟨p1, hp1, hv1⟩ := ixR (pg := pg) (R := den pg) (El.lt_view (E := elR false) false (costs X) H) (i := i) (by rw [costs_tab]; exact tabl_get _ hi)
    obtain ⟨p3, hp3, hv3⟩ := ixR (pg := pg) (R := den pg) (El.lt_view (E := elR false) false (prefs X 1 1) H) (i := i) (by rw [prefs_tab]; exact tabl_get _ hi)
    have hl1 : lenK 0 (elI.lt false (trow X.length (costOf X) i)) H = some X.length := by
      have := (El.lt_view (E := elI) false (trow X.length (costOf X) i) H).lenK
      rw [trow_len] at this; exact this H
    have hl3 : lenK 0 (elI.lt false (trow X.length (pref X 1 1) i)) H = some X.length := by
      have := (El.lt_view (E := elI) false (trow X.length (pref X 1 1) i) H).lenK
      rw [trow_len] at this; exact this H
    obtain ⟨e, h1, h2⟩ := l11_1_all (pg := pg) hn5 (H := H) d (i + 1) (by omega)
    refine ⟨e, Eq.trans ?_ h1, h2⟩
    generalize (elR false).lt false (prefs X 1 1) = P at *
    generalize (elR false).lt false (costs X) = C at *
    rw [l11_1, den_loop]
    simp [l11_1, b11_0, go_nil, go_last, go_past, go_pastR, go_blkN, go_blkR, go_blkE, go_skip, go_exit, go_ret, go_scope, go_seq, go_reg, go_block, go_cond, cnd_b, go_opsN, go_ops, go_opsG, grd_b, grd_u, stp_some, fin_some, up_some, cont_some, k_call, k_mv, k_pick, k_bin, k_eqB, k_eqA, k_not, k_neg, k_conv, k_alloc, k_boxA, k_boxI, k_boxB, k_boxN, k_boxBs, k_ldR, k_ldA, k_ldI, k_ldB, k_stA, k_stI, k_stB, ldC_some, stC_some, k_mkfn, k_slc, k_slcA, k_ixA, k_ixBs, k_ixSl, k_fadr, k_fld, k_ext, k_len, k_app, k_mn, k_mx, k_nilck, k_build, k_bsl1, k_bsl2, b_add, b_sub, b_mul, b_eql, b_neq, b_lss, b_leq, b_gtr, b_geq, Dn.setLast, Dn.getLast, evalO, mapO, Dn.get, putE, keepE, TV.one, TV.isAgg, Dn.part, hlen, e1, e2, hp1, hv1, hp3, hv3, hl1, hl3]

set_option maxRecDepth 20000 in
theorem l11_3_all {pg : Pg} (hF : Free pg) {X : List Obs} {g : Nat} (hm : Market X g) {i : Nat} (hi : i < X.length) : ∀ (d k : Nat) (H : Heap), k + d = X.length →
    ∃ e H', den pg l11_3 [(5, (elS false).lt false X), (6, (elS false).lt false X), (7, (elR false).lt false (costs X)), (9, (elR false).lt false (prefs X 1 1)), (12, .i .i64 (i : Int)), (13, .i .i64 (k : Int))] H = some ⟨.exit 4, e, H'⟩ ∧
      keepE [5, 6, 7, 9, 12] e = [(5, (elS false).lt false X), (6, (elS false).lt false X), (7, (elR false).lt false (costs X)), (9, (elR false).lt false (prefs X 1 1)), (12, .i .i64 (i : Int))]
  | 0, k, H, h => by
    have e1 : ¬ ((k : Int) < (X.length : Int)) := by omega
    have hlen := El.lt_len (E := elS false) false X
    refine ⟨[(5, (elS false).lt false X), (6, (elS false).lt false X), (7, (elR false).lt false (costs X)), (9, (elR false).lt false (prefs X 1 1)), (12, .i .i64 (i : Int)), (13, .i .i64 (k : Int)), (88, .b false)], H, ?_, rfl⟩
    rw [l11_3, den_loop]
    simp [b11_2, go_nil, go_last, go_past, go_pastR, go_blkN, go_blkR, go_blkE, go_skip, go_exit, go_ret, go_scope, go_seq, go_reg, go_block, go_cond, cnd_b, go_opsN, go_ops, go_opsG, grd_b, grd_u, stp_some, fin_some, up_some, cont_some, k_call, k_mv, k_pick, k_bin, k_eqB, k_eqA, k_not, k_neg, k_conv, k_alloc, k_boxA, k_boxI, k_boxB, k_boxN, k_boxBs, k_ldR, k_ldA, k_ldI, k_ldB, k_stA, k_stI, k_stB, ldC_some, stC_some, k_mkfn, k_slc, k_slcA, k_ixA, k_ixBs, k_ixSl, k_fadr, k_fld, k_ext, k_len, k_app, k_mn, k_mx, k_nilck, k_build, k_bsl1, k_bsl2, b_add, b_sub, b_mul, b_eql, b_neq, b_lss, b_leq, b_gtr, b_geq, Dn.setLast, Dn.getLast, evalO, mapO, Dn.get, putE, keepE, TV.one, TV.isAgg, Dn.part, hlen, e1]
  | d + 1, k, H, h => by
    have hn5 := hm.n5
    have hk : k < X.length := by omega
    have e1 : ((k : Int) < (X.length : Int)) := by omega
    have e2 : wrapR .i64 ((k : Int) + 1) = .i .i64 ((k : Int) + 1) := wrapR_i64 (by omega)
    have hlen := El.lt_len (E := elS false) false X
    have c1 := call39 hF hm hi hk
    have c2 := call39 hF hm hk hi
    obtain ⟨n1, q1, u1⟩ := hm.cN hk hi
    obtain ⟨n2, q2, u2⟩ := hm.cN hi hi
    obtain ⟨n3, q3, u3⟩ := hm.cN hk hk
    have v1 := low_pos (x := cN X k i) (y := cN X i i) q1
    have v2 := low_pos (x := cN X i i) (y := cN X k i) q2
    have hle := low_le (x := cN X k i) (y := cN X i i) (z := cN X k k) q2
    have hpl := pref_le X k i
    unfold ixV at c1 c2
    rw [Nat.gcd_comm (cN X i i) (cN X k i)] at c2
    obtain ⟨p1, hp1, hv1⟩ := ixR (pg := pg) (R := den pg) (El.lt_view (E := elR false) false (costs X) []) (costs_get hk)
    have key : ∀ K : Heap, ∃ p1 p2 p3 p4 p5 p6, dkc pg (den pg) (.ixS 1 false) [(elR false).lt false (costs X), .i .i64 (k : Int)] K = some (p1, K) ∧ dkc pg (den pg) (.ld 1 false) [p1] K = some (elI.lt false (costRow X k), K) ∧
        dkc pg (den pg) (.ixS 1 false) [elI.lt false (costRow X k), .i .i64 (k : Int)] K = some (p2, K) ∧ dkc pg (den pg) (.ld 1 false) [p2] K = some (.i .i64 (costOf X k k), K) ∧
        dkc pg (den pg) (.ixS 1 false) [(elR false).lt false (costs X), .i .i64 (i : Int)] K = some (p3, K) ∧ dkc pg (den pg) (.ld 1 false) [p3] K = some (elI.lt false (costRow X i), K) ∧
        dkc pg (den pg) (.ixS 1 false) [elI.lt false (costRow X i), .i .i64 (i : Int)] K = some (p4, K) ∧ dkc pg (den pg) (.ld 1 false) [p4] K = some (.i .i64 (costOf X i i), K) ∧
        dkc pg (den pg) (.ixS 1 false) [(elR false).lt false (prefs X 1 1), .i .i64 (k : Int)] K = some (p5, K) ∧ dkc pg (den pg) (.ld 1 false) [p5] K = some (elI.lt false (trow X.length (pref X 1 1) k), K) ∧
        dkc pg (den pg) (.ixS 1 false) [elI.lt false (trow X.length (pref X 1 1) k), .i .i64 (i : Int)] K = some (p6, K) ∧ dkc pg (den pg) (.ld 1 false) [p6] K = some (.i .i64 (pref X 1 1 k i), K) := by
      intro K
      obtain ⟨p1, h1, h1'⟩ := ixR (pg := pg) (R := den pg) (El.lt_view (E := elR false) false (costs X) K) (costs_get hk)
      obtain ⟨p2, h2, h2'⟩ := ixI (pg := pg) (R := den pg) (El.lt_view false (costRow X k) K : elI.View K _ _) (costRow_get hk)
      obtain ⟨p3, h3, h3'⟩ := ixR (pg := pg) (R := den pg) (El.lt_view (E := elR false) false (costs X) K) (costs_get hi)
      obtain ⟨p4, h4, h4'⟩ := ixI (pg := pg) (R := den pg) (El.lt_view false (costRow X i) K : elI.View K _ _) (costRow_get hi)
      obtain ⟨p5, h5, h5'⟩ := ixR (pg := pg) (R := den pg) (El.lt_view (E := elR false) false (prefs X 1 1) K) (i := k) (by rw [prefs_tab]; exact tabl_get _ hk)
      obtain ⟨p6, h6, h6'⟩ := ixI (pg := pg) (R := den pg) (El.lt_view false (trow X.length (pref X 1 1) k) K : elI.View K _ _) (trow_get _ k (k := i) hi)
      exact ⟨p1, p2, p3, p4, p5, p6, h1, h1', h2, h2', h3, h3', h4, h4', h5, h5', h6, h6'⟩
    have heq : decide (0 < pref X 1 1 k i) = decide ((((cN X k i / Nat.gcd (cN X k i) (cN X i i) : Nat) : Int)) * costOf X i i ≤ costOf X k k * (((cN X i i / Nat.gcd (cN X k i) (cN X i i) : Nat) : Int))) := by
      rw [decide_eq_decide, hpl, n1, n2, n3]
      constructor
      · intro h; exact_mod_cast hle.2 (by omega)
      · intro h
        have : cN X k i / (cN X k i).gcd (cN X i i) * cN X i i ≤ cN X k k * (cN X i i / (cN X k i).gcd (cN X i i)) := by exact_mod_cast h
        have := hle.1 this
        omega
    rw [Nat.gcd_comm (cN X i i) (cN X k i)] at v2
    generalize hA1 : cN X k i / Nat.gcd (cN X k i) (cN X i i) = a1 at *
    generalize hA2 : cN X i i / Nat.gcd (cN X k i) (cN X i i) = a2 at *
    generalize ((cN X k k / Nat.gcd (cN X k k) (cN X i k) : Nat) : Int) = b3 at *
    generalize ((cN X i k / Nat.gcd (cN X k k) (cN X i k) : Nat) : Int) = b4 at *
    generalize ((cN X i k / Nat.gcd (cN X i k) (cN X k k) : Nat) : Int) = b5 at *
    generalize ((cN X k k / Nat.gcd (cN X i k) (cN X k k) : Nat) : Int) = b6 at *
    have s1 := st4n (pg := pg) (R := den pg) H a1 a2 b3 b4
    obtain ⟨HA, hA⟩ : ∃ HA, HA = H ++ [.cells [.i .i64 (a1 : Int), .i .i64 (a2 : Int), .i .i64 b3, .i .i64 b4] true] := ⟨_, rfl⟩
    rw [← hA] at s1
    have s2 := st4n (pg := pg) (R := den pg) HA b5 b6 a2 a1
    obtain ⟨HB, hB⟩ : ∃ HB, HB = HA ++ [.cells [.i .i64 b5, .i .i64 b6, .i .i64 (a2 : Int), .i .i64 (a1 : Int)] true] := ⟨_, rfl⟩
    rw [← hB] at s2
    have hal : HA.length = H.length + 1 := by rw [hA]; simp
    have z1 : HB[H.length]? = some (.cells [.i .i64 (a1 : Int), .i .i64 (a2 : Int), .i .i64 b3, .i .i64 b4] true) := by rw [hB, List.getElem?_append_left (by omega), hA]; exact getLast _ _
    have z2 : HB[HA.length]? = some (.cells [.i .i64 b5, .i .i64 b6, .i .i64 (a2 : Int), .i .i64 (a1 : Int)] true) := by rw [hB]; exact getLast _ _
    obtain ⟨r1, r2, _, _⟩ := ldq (pg := pg) (R := den pg) z1
    obtain ⟨_, _, r3, r4⟩ := ldq (pg := pg) (R := den pg) z2
    obtain ⟨t1, t2, t3, t4, t5, t6, w1, w1', w2, w2', w3, w3', w4, w4', w5, w5', w6, w6'⟩ := key HB
    clear key
    have x1 : ¬ ((a2 : Int) < 1) := by omega
    have x2 : ¬ ((a1 : Int) < 1) := by omega
    have x3 : ¬ ((1200 : Int) < (a1 : Int)) := by omega
    have x4 : ¬ ((1200 : Int) < (a2 : Int)) := by omega
    have x5 : ¬ (costOf X k k < 1) := by omega
    have x6 : ¬ ((1200 : Int) < costOf X k k) := by omega
    have x7 : ¬ (costOf X i i < 1) := by omega
    have x8 : ¬ ((1200 : Int) < costOf X i i) := by omega
    have m1 := mul_fits (a := (a1 : Int)) (by omega) (hm.cost hi hi)
    have m2 : wrapR .i64 (costOf X k k * (a2 : Int)) = .i .i64 (costOf X k k * (a2 : Int)) := by
      have := mul_fits (a := (a2 : Int)) (by omega) (hm.cost hk hk)
      rw [Int.mul_comm]; exact this
    obtain ⟨e, H', h1, h2⟩ := l11_3_all hF hm hi d (k + 1) HB (by omega)
    refine ⟨e, H', Eq.trans ?_ h1, h2⟩
    generalize (elR false).lt false (prefs X 1 1) = P at *
    generalize (elR false).lt false (costs X) = C at *
    generalize costOf X k k = ckk at *
    generalize costOf X i i = cii at *
    generalize pref X 1 1 k i = pp at *
    generalize (a1 : Int) = A1 at *
    generalize (a2 : Int) = A2 at *
    rw [l11_3, den_loop]
    by_cases hp : 0 < pp
    · have hq : A1 * cii ≤ ckk * A2 := by
        rw [decide_eq_decide] at heq; exact heq.1 hp
      simp [l11_3, b11_2, negb, go_nil, go_last, go_past, go_pastR, go_blkN, go_blkR, go_blkE, go_skip, go_exit, go_ret, go_scope, go_seq, go_reg, go_block, go_cond, cnd_b, go_opsN, go_ops, go_opsG, grd_b, grd_u, stp_some, fin_some, up_some, cont_some, k_call, k_mv, k_pick, k_bin, k_eqB, k_eqA, k_not, k_neg, k_conv, k_alloc, k_boxA, k_boxI, k_boxB, k_boxN, k_boxBs, k_ldR, k_ldA, k_ldI, k_ldB, k_stA, k_stI, k_stB, ldC_some, stC_some, k_mkfn, k_slc, k_slcA, k_ixA, k_ixBs, k_ixSl, k_fadr, k_fld, k_ext, k_len, k_app, k_mn, k_mx, k_nilck, k_build, k_bsl1, k_bsl2, b_add, b_sub, b_mul, b_eql, b_neq, b_lss, b_leq, b_gtr, b_geq, Dn.setLast, Dn.getLast, evalO, mapO, Dn.get, putE, keepE, TV.one, TV.isAgg, Dn.part, hlen, e1, e2, c1, s1, c2, s2, r1, r2, r3, r4, w1, w1', w2, w2', w3, w3', w4, w4', w5, w5', w6, w6', x1, x2, x3, x4, x5, x6, x7, x8, m1, m2, hp, hq]
    · have hq : ¬ A1 * cii ≤ ckk * A2 := by
        rw [decide_eq_decide] at heq; exact fun h => hp (heq.2 h)
      simp [l11_3, b11_2, negb, go_nil, go_last, go_past, go_pastR, go_blkN, go_blkR, go_blkE, go_skip, go_exit, go_ret, go_scope, go_seq, go_reg, go_block, go_cond, cnd_b, go_opsN, go_ops, go_opsG, grd_b, grd_u, stp_some, fin_some, up_some, cont_some, k_call, k_mv, k_pick, k_bin, k_eqB, k_eqA, k_not, k_neg, k_conv, k_alloc, k_boxA, k_boxI, k_boxB, k_boxN, k_boxBs, k_ldR, k_ldA, k_ldI, k_ldB, k_stA, k_stI, k_stB, ldC_some, stC_some, k_mkfn, k_slc, k_slcA, k_ixA, k_ixBs, k_ixSl, k_fadr, k_fld, k_ext, k_len, k_app, k_mn, k_mx, k_nilck, k_build, k_bsl1, k_bsl2, b_add, b_sub, b_mul, b_eql, b_neq, b_lss, b_leq, b_gtr, b_geq, Dn.setLast, Dn.getLast, evalO, mapO, Dn.get, putE, keepE, TV.one, TV.isAgg, Dn.part, hlen, e1, e2, c1, s1, c2, s2, r1, r2, r3, r4, w1, w1', w2, w2', w3, w3', w4, w4', w5, w5', w6, w6', x1, x2, x3, x4, x5, x6, x7, x8, m1, m2, hp, hq]

theorem l11_5_all {pg : Pg} (hF : Free pg) {X : List Obs} {g : Nat} (hm : Market X g) : ∀ (d i : Nat) (H : Heap), i + d = X.length →
    ∃ e H', den pg l11_5 [(5, (elS false).lt false X), (6, (elS false).lt false X), (7, (elR false).lt false (costs X)), (9, (elR false).lt false (prefs X 1 1)), (12, .i .i64 (i : Int))] H = some ⟨.exit 2, e, H'⟩
  | 0, i, H, h => by
    have e1 : ¬ ((i : Int) < (X.length : Int)) := by omega
    have hlen := El.lt_len (E := elS false) false X
    refine ⟨[(5, (elS false).lt false X), (6, (elS false).lt false X), (7, (elR false).lt false (costs X)), (9, (elR false).lt false (prefs X 1 1)), (12, .i .i64 (i : Int)), (82, .b false)], H, ?_⟩
    rw [l11_5, den_loop]
    simp [b11_4, go_nil, go_last, go_past, go_pastR, go_blkN, go_blkR, go_blkE, go_skip, go_exit, go_ret, go_scope, go_seq, go_reg, go_block, go_cond, cnd_b, go_opsN, go_ops, go_opsG, grd_b, grd_u, stp_some, fin_some, up_some, cont_some, k_call, k_mv, k_pick, k_bin, k_eqB, k_eqA, k_not, k_neg, k_conv, k_alloc, k_boxA, k_boxI, k_boxB, k_boxN, k_boxBs, k_ldR, k_ldA, k_ldI, k_ldB, k_stA, k_stI, k_stB, ldC_some, stC_some, k_mkfn, k_slc, k_slcA, k_ixA, k_ixBs, k_ixSl, k_fadr, k_fld, k_ext, k_len, k_app, k_mn, k_mx, k_nilck, k_build, k_bsl1, k_bsl2, b_add, b_sub, b_mul, b_eql, b_neq, b_lss, b_leq, b_gtr, b_geq, Dn.setLast, Dn.getLast, evalO, mapO, Dn.get, putE, keepE, TV.one, TV.isAgg, Dn.part, hlen, e1]
  | d + 1, i, H, h => by
    have hn5 := hm.n5
    have hi : i < X.length := by omega
    have e1 : ((i : Int) < (X.length : Int)) := by omega
    have e2 : wrapR .i64 ((i : Int) + 1) = .i .i64 ((i : Int) + 1) := wrapR_i64 (by omega)
    have hlen := El.lt_len (E := elS false) false X
    obtain ⟨e, H1, h1, h2⟩ := l11_3_all hF hm hi X.length 0 H (by omega)
    simp only [Int.natCast_zero] at h1
    obtain ⟨e', H', k1⟩ := l11_5_all hF hm d (i + 1) H1 (by omega)
    have g5 := keep_get h2 (s := 5) (by simp) rfl
    have g6 := keep_get h2 (s := 6) (by simp) rfl
    have g7 := keep_get h2 (s := 7) (by simp) rfl
    have g9 := keep_get h2 (s := 9) (by simp) rfl
    have g12 := keep_get h2 (s := 12) (by simp) rfl
    refine ⟨e', H', Eq.trans ?_ k1⟩
    rw [l11_5, den_loop]
    simp [l11_5, b11_4, go_nil, go_last, go_past, go_pastR, go_blkN, go_blkR, go_blkE, go_skip, go_exit, go_ret, go_scope, go_seq, go_reg, go_block, go_cond, cnd_b, go_opsN, go_ops, go_opsG, grd_b, grd_u, stp_some, fin_some, up_some, cont_some, k_call, k_mv, k_pick, k_bin, k_eqB, k_eqA, k_not, k_neg, k_conv, k_alloc, k_boxA, k_boxI, k_boxB, k_boxN, k_boxBs, k_ldR, k_ldA, k_ldI, k_ldB, k_stA, k_stI, k_stB, ldC_some, stC_some, k_mkfn, k_slc, k_slcA, k_ixA, k_ixBs, k_ixSl, k_fadr, k_fld, k_ext, k_len, k_app, k_mn, k_mx, k_nilck, k_build, k_bsl1, k_bsl2, b_add, b_sub, b_mul, b_eql, b_neq, b_lss, b_leq, b_gtr, b_geq, Dn.setLast, Dn.getLast, evalO, mapO, Dn.get, putE, keepE, TV.one, TV.isAgg, Dn.part, hlen, e1, e2, go_denK (c := l11_3) rfl, h1, g5, g6, g7, g9, g12]

theorem run11 {pg : Pg} (hF : Free pg) (h24 : PFn pg 24 [] (.b true)) {T : TV} {l : List Obs} (hT : Rws T l) (hl : l.length ≤ 9223372036854775807) (n : Int) : ∃ H, bodyRun pg (den pg) 11 [T, .i .i64 n] [] = some (.b true, H) := by
  obtain ⟨X, g, hm, c17⟩ := call17 hF hT hl n
  have hn5 := hm.n5
  have c18 := call18m hF hm
  have c34 := call34 hF hm (elS_RV false false X)
  have c38 := call38 hF hm (elS_RV false false X)
  have c24 := fun H => PFn.call h24 (args := []) (ks := []) (fs := []) (cs := []) (H := H) (by simp [snapArgs])
  have hlen := El.lt_len (E := elS false) false X
  have hpl : ∀ H, lenK 0 ((elR false).lt false (prefs X 1 1)) H = some X.length := fun H => by
    have := (El.lt_view (E := elR false) false (prefs X 1 1) H).lenK
    rw [prefs_tab, tabl_len] at this; exact this H
  have hcl : ∀ H, lenK 0 ((elR false).lt false (costs X)) H = some X.length := fun H => by
    have := (El.lt_view (E := elR false) false (costs X) H).lenK
    rw [costs_tab, tabl_len] at this; exact this H
  obtain ⟨e, h1, h2⟩ := l11_1_all (pg := pg) hn5 (H := []) X.length 0 (by omega)
  obtain ⟨e', H', k1⟩ := l11_5_all hF hm X.length 0 [] (by omega)
  simp only [Int.natCast_zero] at h1 k1
  have g5 := keep_get h2 (s := 5) (by simp) rfl
  have g6 := keep_get h2 (s := 6) (by simp) rfl
  have g7 := keep_get h2 (s := 7) (by simp) rfl
  have g9 := keep_get h2 (s := 9) (by simp) rfl
  refine ⟨H', body_of (x := .ret) (e := [(4, .b true)]) (d := d11) (by rw [hF.F]; rfl) rfl ?_ (.inl rfl) rfl⟩
  generalize (elR false).lt false (prefs X 1 1) = P at *
  generalize (elR false).lt false (costs X) = C at *
  simp [d11, c11, zipE, go_nil, go_last, go_past, go_pastR, go_blkN, go_blkR, go_blkE, go_skip, go_exit, go_ret, go_scope, go_seq, go_reg, go_block, go_cond, cnd_b, go_opsN, go_ops, go_opsG, grd_b, grd_u, stp_some, fin_some, up_some, cont_some, k_call, k_mv, k_pick, k_bin, k_eqB, k_eqA, k_not, k_neg, k_conv, k_alloc, k_boxA, k_boxI, k_boxB, k_boxN, k_boxBs, k_ldR, k_ldA, k_ldI, k_ldB, k_stA, k_stI, k_stB, ldC_some, stC_some, k_mkfn, k_slc, k_slcA, k_ixA, k_ixBs, k_ixSl, k_fadr, k_fld, k_ext, k_len, k_app, k_mn, k_mx, k_nilck, k_build, k_bsl1, k_bsl2, b_add, b_sub, b_mul, b_eql, b_neq, b_lss, b_leq, b_gtr, b_geq, Dn.setLast, Dn.getLast, evalO, mapO, Dn.get, putE, keepE, TV.one, TV.isAgg, Dn.part, c17, c18, c34, c38, hlen, hpl, hcl, go_denK (c := l11_1) rfl, h1, g5, g6, g7, g9, go_denK (c := l11_5) rfl, k1, c24]

end Go.Proofs.Tryd.Dn

