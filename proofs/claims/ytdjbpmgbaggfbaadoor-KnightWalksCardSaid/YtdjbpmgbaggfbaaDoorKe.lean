/-
  Knight: the number of walks, in the reference; boards of any numbers.
-/
import Derived.Test.YtdjbpmgbaggfbaaDoorKd
set_option linter.unusedSimpArgs false
set_option linter.unusedVariables false

namespace Go.Proofs.Tryd.Dn
open Go.Dn

theorem fn62 {pg : Pg} (hF : Free pg) {c a b : Nat} (hc : 1 ≤ c) (hc8 : c ≤ 8) (ha : a < 64) (hb : b < 64) : PFn pg 62 [.i .i64 (c : Int), .i .i64 (a : Int), .i .i64 (b : Int)] (.b (near c a b)) := by
  have t1 := tdiv_nat a c
  have t2 := tdiv_nat b c
  have m1 := tmod_nat a c
  have m2 := tmod_nat b c
  have d1 : a / c < 64 := Nat.lt_of_le_of_lt (Nat.div_le_self _ _) ha
  have d2 : b / c < 64 := Nat.lt_of_le_of_lt (Nat.div_le_self _ _) hb
  have d3 : a % c < 64 := Nat.lt_of_le_of_lt (Nat.mod_le _ _) ha
  have d4 : b % c < 64 := Nat.lt_of_le_of_lt (Nat.mod_le _ _) hb
  have c0 : ¬ c = 0 := by omega
  unfold near
  generalize a / c = x at *
  generalize b / c = y at *
  generalize a % c = z at *
  generalize b % c = w at *
  have w1 : wrapR .i64 (x : Int) = .i .i64 (x : Int) := wrapR_i64 (by omega)
  have w2 : wrapR .i64 (y : Int) = .i .i64 (y : Int) := wrapR_i64 (by omega)
  have w3 : wrapR .i64 ((x : Int) - (y : Int)) = .i .i64 ((x : Int) - (y : Int)) := wrapR_i64 (by omega)
  have w4 : wrapR .i64 ((z : Int) - (w : Int)) = .i .i64 ((z : Int) - (w : Int)) := wrapR_i64 (by omega)
  obtain ⟨p, hp⟩ : ∃ p : Int, p = (x : Int) - (y : Int) := ⟨_, rfl⟩
  obtain ⟨q, hq⟩ : ∃ q : Int, q = (z : Int) - (w : Int) := ⟨_, rfl⟩
  have bp : -64 ≤ p ∧ p ≤ 64 := by omega
  have bq : -64 ≤ q ∧ q ≤ 64 := by omega
  have sq : ∀ v : Int, -64 ≤ v ∧ v ≤ 64 → 0 ≤ v * v ∧ v * v ≤ 4096 := fun v hv => by
    have h1 : v * v = v.natAbs * v.natAbs := by rw [Int.natAbs_mul_self']
    have h2 : v.natAbs ≤ 64 := by omega
    have h3 := Nat.mul_le_mul h2 h2
    rw [h1]
    omega
  have sp := sq p bp
  have sq' := sq q bq
  rw [← hp] at w3 ⊢
  rw [← hq] at w4 ⊢
  have w5 : wrapR .i64 (p * p) = .i .i64 (p * p) := wrapR_i64 (by omega)
  have w6 : wrapR .i64 (q * q) = .i .i64 (q * q) := wrapR_i64 (by omega)
  have w7 : wrapR .i64 (p * p + q * q) = .i .i64 (p * p + q * q) := wrapR_i64 (by omega)
  refine .of1 (x := .ret) (e := [(6, .b (p * p + q * q == 5))]) (H' := []) (hF.S _ _ (by decide)) (d := d62) (by rw [hF.F]; rfl) rfl ?_ (.inl rfl) rfl (by simp [sn_i, sn_b, sn_nil, sn8_i, sn8_b, sn8_nil, sn7_i, sn7_b, sn_sl, sn8_sl, slB_some, sn_tup, sn_agg, sn8_agg, mapO, elems])
  simp [d62, c62, zipE, go_nil, go_last, go_past, go_pastR, go_blkN, go_blkR, go_blkE, go_skip, go_exit, go_ret, go_scope, go_seq, go_reg, go_regd, go_opdN, go_opd, go_opdG, grdd_b, grdd_u, stpd_some, find_some, go_block, go_cond, cnd_b, go_opsN, go_ops, go_opsG, grd_b, grd_u, stp_some, fin_some, up_some, cont_some, k_call, k_mv, k_pick, k_bin, k_eqB, k_eqA, k_not, k_neg, k_conv, k_alloc, k_boxA, k_boxI, k_boxB, k_boxN, k_boxBs, k_ldR, k_ldA, k_ldI, k_ldB, k_stA, k_stI, k_stB, ldC_some, stC_some, k_mkfn, k_slc, k_slcA, k_ixA, k_ixBs, k_ixSl, k_fadr, k_fld, k_ext, k_len, k_app, k_mn, k_mx, k_nilck, k_build, k_bsl1, k_bsl2, b_add, b_sub, b_mul, b_eql, b_neq, b_lss, b_leq, b_gtr, b_geq, Dn.setLast, Dn.getLast, evalO, mapO, Dn.get, putE, keepE, TV.one, TV.isAgg, Dn.part, b_quo, b_rem, c0, t1, t2, m1, m2, w1, w2, ← hp, ← hq, w3, w4, w5, w6, w7]

theorem call62 {pg : Pg} (hF : Free pg) {c a b : Nat} (hc : 1 ≤ c) (hc8 : c ≤ 8) (ha : a < 64) (hb : b < 64) (H : Heap) : callRun pg (den pg) (.pu []) [.fn 62 [] [], .i .i64 (c : Int), .i .i64 (a : Int), .i .i64 (b : Int)] H = some (.b (near c a b), H) :=
  PFn.call (fn62 hF hc hc8 ha hb) (args := [.i .i64 (c : Int), .i .i64 (a : Int), .i .i64 (b : Int)]) (by simp [snapArgs, sn_i])

/-- the first n numbers of a row -/
def wl (f : Nat → Nat) (n : Nat) : List Int := (List.range n).map fun t => (f t : Int)
theorem wl_len (f : Nat → Nat) (n : Nat) : (wl f n).length = n := by simp [wl]
theorem wl_at (f : Nat → Nat) {n t : Nat} (h : t < n) : (wl f n)[t]? = some (f t : Int) := by simp [wl, h]
theorem wl_set (f : Nat → Nat) {n t : Nat} (h : t < n) (v : Nat) : (wl f n).set t (v : Int) = wl (upd f t v) n := by
  apply List.ext_getElem?
  intro i
  by_cases hi : i = t
  · subst hi
    rw [List.getElem?_set_self (by rw [wl_len]; exact h), wl_at _ h]
    simp [upd]
  · rw [List.getElem?_set_ne (by omega)]
    by_cases h2 : i < n
    · rw [wl_at _ h2, wl_at _ h2]; simp only [upd, if_neg hi]
    · rw [List.getElem?_eq_none (by rw [wl_len]; omega), List.getElem?_eq_none (by rw [wl_len]; omega)]

/-- the sums while one square gives to all others in turn -/
def nb (c : Nat) (f : Nat → Nat) (a b : Nat) : Nat → Nat := fun t => psum c f t (if t < b then a + 1 else a)

theorem nb_step (c : Nat) (f : Nat → Nat) (a b : Nat) : upd (nb c f a b) b (psum c f b (a + 1)) = nb c f a (b + 1) := by
  funext t
  unfold upd nb
  by_cases h : t = b
  · subst h; rw [if_pos rfl, if_pos (by omega)]
  · rw [if_neg h]
    by_cases h2 : t < b
    · rw [if_pos h2, if_pos (by omega)]
    · rw [if_neg h2, if_neg (by omega)]

theorem nb_last (c : Nat) (f : Nat → Nat) (a n : Nat) : wl (nb c f a n) n = wl (nb c f (a + 1) 0) n := by
  apply List.map_congr_left
  intro t ht
  rw [List.mem_range] at ht
  unfold nb
  rw [if_pos ht, if_neg (by omega)]

theorem l27_1_round {pg : Pg} (hF : Free pg) {r c a b : Nat} (h : Brd r c) (ha : a < r * c) (hb : b < r * c) {f : Nat → Nat} (hf : ∀ t, psum c f t (r * c) < 9223372036854775808) {T S K M N : TV} {H : Heap}
    (hM : elI.Arr H M (wl f (r * c))) (hN : elI.Arr H N (wl (nb c f a b) (r * c))) (hne : ∀ id, M.idOf = some id → N.idOf ≠ some id) :
    ∃ H', den pg l27_1 [(0, .i .i64 (r : Int)), (1, .i .i64 (c : Int)), (3, T), (4, S), (11, M), (12, K), (13, N), (14, .i .i64 (a : Int)), (15, .i .i64 (b : Int))] H =
        den pg l27_1 [(0, .i .i64 (r : Int)), (1, .i .i64 (c : Int)), (3, T), (4, S), (11, M), (12, K), (13, N), (14, .i .i64 (a : Int)), (15, .i .i64 ((b + 1 : Nat) : Int))] H' ∧
      elI.Arr H' N (wl (nb c f a (b + 1)) (r * c)) ∧ H'.length = H.length ∧ ∀ j, N.idOf ≠ some j → H'[j]? = H[j]? := by
  have hn := h.n36
  have hcast : ((r * c : Nat) : Int) = (r : Int) * c := by simp
  have wn : wrapR .i64 ((r : Int) * (c : Int)) = .i .i64 ((r : Int) * (c : Int)) := wrapR_i64 (by rw [← hcast]; omega)
  have e1 : ((b : Int) < (r : Int) * (c : Int)) := by rw [← hcast]; omega
  have e2 : wrapR .i64 ((b : Int) + 1) = .i .i64 ((b : Int) + 1) := wrapR_i64 (by omega)
  have c62 := call62 hF h.c1 h.c8 (a := a) (b := b) (by omega) (by omega) H
  cases hnr : near c a b with
  | false =>
    rw [hnr] at c62
    refine ⟨H, ?_, ?_, rfl, fun _ _ => rfl⟩
    · rw [l27_1, den_loop]
      simp [l27_1, b27_0, go_nil, go_last, go_past, go_pastR, go_blkN, go_blkR, go_blkE, go_skip, go_exit, go_ret, go_scope, go_seq, go_reg, go_regd, go_opdN, go_opd, go_opdG, grdd_b, grdd_u, stpd_some, find_some, go_block, go_cond, cnd_b, go_opsN, go_ops, go_opsG, grd_b, grd_u, stp_some, fin_some, up_some, cont_some, k_call, k_mv, k_pick, k_bin, k_eqB, k_eqA, k_not, k_neg, k_conv, k_alloc, k_boxA, k_boxI, k_boxB, k_boxN, k_boxBs, k_ldR, k_ldA, k_ldI, k_ldB, k_stA, k_stI, k_stB, ldC_some, stC_some, k_mkfn, k_slc, k_slcA, k_ixA, k_ixBs, k_ixSl, k_fadr, k_fld, k_ext, k_len, k_app, k_mn, k_mx, k_nilck, k_build, k_bsl1, k_bsl2, b_add, b_sub, b_mul, b_eql, b_neq, b_lss, b_leq, b_gtr, b_geq, Dn.setLast, Dn.getLast, evalO, mapO, Dn.get, putE, keepE, TV.one, TV.isAgg, Dn.part, wn, e1, e2, c62]
    · have : psum c f b (a + 1) = nb c f a b b := by unfold nb; rw [psum, hnr, if_neg (Nat.lt_irrefl b)]; simp
      have h2 := nb_step c f a b
      rw [this] at h2
      have h3 : upd (nb c f a b) b (nb c f a b b) = nb c f a b := by funext t; unfold upd; split <;> simp_all
      rw [h3] at h2
      rw [← h2]; exact hN
  | true =>
    rw [hnr] at c62
    obtain ⟨p, p1, p2, _⟩ := El.Arr.at (pg := pg) (R := den pg) hM (wl_at f ha) .i64
    obtain ⟨q, q1, q2, q3, _⟩ := El.Arr.at (pg := pg) (R := den pg) hN (wl_at (nb c f a b) hb) .i64
    have hval : nb c f a b b + f a = psum c f b (a + 1) := by
      unfold nb; rw [psum, hnr, if_neg (Nat.lt_irrefl b)]; simp
    have hle : psum c f b (a + 1) < 9223372036854775808 := Nat.lt_of_le_of_lt (psum_mono c f b (by omega)) (hf b)
    have wa : wrapR .i64 ((nb c f a b b : Int) + (f a : Int)) = .i .i64 (psum c f b (a + 1) : Int) := by
      rw [show (nb c f a b b : Int) + (f a : Int) = ((nb c f a b b + f a : Nat) : Int) by simp, hval]
      exact wrapR_i64 (by omega)
    obtain ⟨H', s1, s2, s3, s4⟩ := q3 (psum c f b (a + 1) : Int)
    rw [wl_set _ hb, nb_step] at s2
    have p1' : dkc pg (den pg) (.ixS 1 false) [M, .i .i64 (a : Int)] H = some (p, H) := p1
    have p2' : dkc pg (den pg) (.ld 1 false) [p] H = some (.i .i64 (f a : Int), H) := p2.ld
    have q1' : dkc pg (den pg) (.ixS 1 false) [N, .i .i64 (b : Int)] H = some (q, H) := q1
    have q2' : dkc pg (den pg) (.ld 1 false) [q] H = some (.i .i64 (nb c f a b b : Int), H) := q2.ld
    have s1' : dkc pg (den pg) (.st 1) [q, .i .i64 (psum c f b (a + 1) : Int)] H = some (.undef, H') := s1
    have hqr : ∃ id o, q = .ref id o := by
      cases q <;> first | exact ⟨_, _, rfl⟩ | (simp [dkc, dk] at s1'; done)
    obtain ⟨qi, qo, rfl⟩ := hqr
    rw [k_stI] at s1'
    refine ⟨H', ?_, s2, s3, s4⟩
    generalize psum c f b (a + 1) = v1 at *
    generalize nb c f a b b = v2 at *
    generalize f a = v3 at *
    rw [l27_1, den_loop]
    simp [l27_1, b27_0, go_nil, go_last, go_past, go_pastR, go_blkN, go_blkR, go_blkE, go_skip, go_exit, go_ret, go_scope, go_seq, go_reg, go_regd, go_opdN, go_opd, go_opdG, grdd_b, grdd_u, stpd_some, find_some, go_block, go_cond, cnd_b, go_opsN, go_ops, go_opsG, grd_b, grd_u, stp_some, fin_some, up_some, cont_some, k_call, k_mv, k_pick, k_bin, k_eqB, k_eqA, k_not, k_neg, k_conv, k_alloc, k_boxA, k_boxI, k_boxB, k_boxN, k_boxBs, k_ldR, k_ldA, k_ldI, k_ldB, k_stA, k_stI, k_stB, ldC_some, stC_some, k_mkfn, k_slc, k_slcA, k_ixA, k_ixBs, k_ixSl, k_fadr, k_fld, k_ext, k_len, k_app, k_mn, k_mx, k_nilck, k_build, k_bsl1, k_bsl2, b_add, b_sub, b_mul, b_eql, b_neq, b_lss, b_leq, b_gtr, b_geq, Dn.setLast, Dn.getLast, evalO, mapO, Dn.get, putE, keepE, TV.one, TV.isAgg, Dn.part, wn, e1, e2, c62, p1', p2', q1', q2', wa, s1']

end Go.Proofs.Tryd.Dn

/-
  Knight: the reference's Walks; boards of any numbers.
-/

namespace Go.Proofs.Tryd.Dn
open Go.Dn

theorem rc_facts {r c : Nat} (h : Brd r c) : ((r * c : Nat) : Int) = (r : Int) * c ∧ wrapR .i64 ((r : Int) * (c : Int)) = .i .i64 ((r : Int) * (c : Int)) := by
  have hn := h.n36
  have hcast : ((r * c : Nat) : Int) = (r : Int) * c := by simp
  exact ⟨hcast, wrapR_i64 (by rw [← hcast]; omega)⟩

theorem l27_1_all {pg : Pg} (hF : Free pg) {r c a : Nat} (h : Brd r c) (ha : a < r * c) {f : Nat → Nat} (hf : ∀ t, psum c f t (r * c) < 9223372036854775808) {T S K M N : TV} (hne : ∀ id, M.idOf = some id → N.idOf ≠ some id) : ∀ (d b : Nat) (H : Heap), b + d = r * c → elI.Arr H M (wl f (r * c)) → elI.Arr H N (wl (nb c f a b) (r * c)) →
    ∃ e H', den pg l27_1 [(0, .i .i64 (r : Int)), (1, .i .i64 (c : Int)), (3, T), (4, S), (11, M), (12, K), (13, N), (14, .i .i64 (a : Int)), (15, .i .i64 (b : Int))] H = some ⟨.exit 4, e, H'⟩ ∧
      keepE [0, 1, 3, 4, 11, 12, 13, 14] e = [(0, .i .i64 (r : Int)), (1, .i .i64 (c : Int)), (3, T), (4, S), (11, M), (12, K), (13, N), (14, .i .i64 (a : Int))] ∧ elI.Arr H' N (wl (nb c f (a + 1) 0) (r * c)) ∧ H'.length = H.length ∧ ∀ j, N.idOf ≠ some j → H'[j]? = H[j]?
  | 0, b, H, hd, hM, hN => by
    obtain rfl : b = r * c := by omega
    obtain ⟨hcast, wn⟩ := rc_facts h
    refine ⟨[(0, .i .i64 (r : Int)), (1, .i .i64 (c : Int)), (3, T), (4, S), (11, M), (12, K), (13, N), (14, .i .i64 (a : Int)), (15, .i .i64 ((r * c : Nat) : Int)), (43, .b false)], H, ?_, rfl, by rw [← nb_last]; exact hN, rfl, fun _ _ => rfl⟩
    rw [hcast, l27_1, den_loop]
    simp [b27_0, go_nil, go_last, go_past, go_pastR, go_blkN, go_blkR, go_blkE, go_skip, go_exit, go_ret, go_scope, go_seq, go_reg, go_regd, go_opdN, go_opd, go_opdG, grdd_b, grdd_u, stpd_some, find_some, go_block, go_cond, cnd_b, go_opsN, go_ops, go_opsG, grd_b, grd_u, stp_some, fin_some, up_some, cont_some, k_call, k_mv, k_pick, k_bin, k_eqB, k_eqA, k_not, k_neg, k_conv, k_alloc, k_boxA, k_boxI, k_boxB, k_boxN, k_boxBs, k_ldR, k_ldA, k_ldI, k_ldB, k_stA, k_stI, k_stB, ldC_some, stC_some, k_mkfn, k_slc, k_slcA, k_ixA, k_ixBs, k_ixSl, k_fadr, k_fld, k_ext, k_len, k_app, k_mn, k_mx, k_nilck, k_build, k_bsl1, k_bsl2, b_add, b_sub, b_mul, b_eql, b_neq, b_lss, b_leq, b_gtr, b_geq, Dn.setLast, Dn.getLast, evalO, mapO, Dn.get, putE, keepE, TV.one, TV.isAgg, Dn.part, wn]
  | d + 1, b, H, hd, hM, hN => by
    obtain ⟨H1, a1, a2, a3, a4⟩ := l27_1_round (pg := pg) hF h ha (b := b) (by omega) hf (T := T) (S := S) (K := K) hM hN hne
    obtain ⟨e, H2, b1, b2, b3, b4, b5⟩ := l27_1_all hF h ha hf (T := T) (S := S) (K := K) hne d (b + 1) H1 (by omega) (hM.mono fun id hid => a4 id (hne id hid)) a2
    exact ⟨e, H2, Eq.trans a1 b1, b2, b3, by omega, fun m hm => by rw [b5 m hm, a4 m hm]⟩

theorem l27_3_all {pg : Pg} (hF : Free pg) {r c : Nat} (h : Brd r c) {f : Nat → Nat} (hf : ∀ t, psum c f t (r * c) < 9223372036854775808) {T S K M N : TV} (hne : ∀ id, M.idOf = some id → N.idOf ≠ some id) : ∀ (d a : Nat) (H : Heap), a + d = r * c → elI.Arr H M (wl f (r * c)) → elI.Arr H N (wl (nb c f a 0) (r * c)) →
    ∃ e H', den pg l27_3 [(0, .i .i64 (r : Int)), (1, .i .i64 (c : Int)), (3, T), (4, S), (11, M), (12, K), (13, N), (14, .i .i64 (a : Int))] H = some ⟨.exit 2, e, H'⟩ ∧
      keepE [0, 1, 3, 4, 12, 13] e = [(0, .i .i64 (r : Int)), (1, .i .i64 (c : Int)), (3, T), (4, S), (12, K), (13, N)] ∧ elI.Arr H' N (wl (wStep r c f) (r * c)) ∧ H'.length = H.length ∧ ∀ j, N.idOf ≠ some j → H'[j]? = H[j]?
  | 0, a, H, hd, hM, hN => by
    obtain rfl : a = r * c := by omega
    obtain ⟨hcast, wn⟩ := rc_facts h
    have hw : wl (nb c f (r * c) 0) (r * c) = wl (wStep r c f) (r * c) := by
      apply List.map_congr_left
      intro t ht
      rw [List.mem_range] at ht
      unfold nb wStep
      rw [if_neg (by omega), if_pos ht]
    refine ⟨[(0, .i .i64 (r : Int)), (1, .i .i64 (c : Int)), (3, T), (4, S), (11, M), (12, K), (13, N), (14, .i .i64 ((r * c : Nat) : Int)), (36, .b false)], H, ?_, rfl, by rw [← hw]; exact hN, rfl, fun _ _ => rfl⟩
    rw [hcast, l27_3, den_loop]
    simp [b27_2, go_nil, go_last, go_past, go_pastR, go_blkN, go_blkR, go_blkE, go_skip, go_exit, go_ret, go_scope, go_seq, go_reg, go_regd, go_opdN, go_opd, go_opdG, grdd_b, grdd_u, stpd_some, find_some, go_block, go_cond, cnd_b, go_opsN, go_ops, go_opsG, grd_b, grd_u, stp_some, fin_some, up_some, cont_some, k_call, k_mv, k_pick, k_bin, k_eqB, k_eqA, k_not, k_neg, k_conv, k_alloc, k_boxA, k_boxI, k_boxB, k_boxN, k_boxBs, k_ldR, k_ldA, k_ldI, k_ldB, k_stA, k_stI, k_stB, ldC_some, stC_some, k_mkfn, k_slc, k_slcA, k_ixA, k_ixBs, k_ixSl, k_fadr, k_fld, k_ext, k_len, k_app, k_mn, k_mx, k_nilck, k_build, k_bsl1, k_bsl2, b_add, b_sub, b_mul, b_eql, b_neq, b_lss, b_leq, b_gtr, b_geq, Dn.setLast, Dn.getLast, evalO, mapO, Dn.get, putE, keepE, TV.one, TV.isAgg, Dn.part, wn]
  | d + 1, a, H, hd, hM, hN => by
    have hn := h.n36
    obtain ⟨hcast, wn⟩ := rc_facts h
    have e1 : ((a : Int) < (r : Int) * (c : Int)) := by rw [← hcast]; omega
    have e2 : wrapR .i64 ((a : Int) + 1) = .i .i64 ((a : Int) + 1) := wrapR_i64 (by omega)
    obtain ⟨e, H1, r1, r2, r3, r4, r5⟩ := l27_1_all (pg := pg) hF h (a := a) (by omega) hf (T := T) (S := S) (K := K) hne (r * c) 0 H (by omega) hM hN
    simp only [Int.natCast_zero] at r1
    have g0 := keep_get r2 (s := 0) (by simp) rfl
    have g1 := keep_get r2 (s := 1) (by simp) rfl
    have g3 := keep_get r2 (s := 3) (by simp) rfl
    have g4 := keep_get r2 (s := 4) (by simp) rfl
    have g11 := keep_get r2 (s := 11) (by simp) rfl
    have g12 := keep_get r2 (s := 12) (by simp) rfl
    have g13 := keep_get r2 (s := 13) (by simp) rfl
    have g14 := keep_get r2 (s := 14) (by simp) rfl
    obtain ⟨e', H2, b1, b2, b3, b4, b5⟩ := l27_3_all hF h hf (T := T) (S := S) (K := K) hne d (a + 1) H1 (by omega) (hM.mono fun id hid => r5 id (hne id hid)) r3
    refine ⟨e', H2, Eq.trans ?_ b1, b2, b3, by omega, fun m hm => by rw [b5 m hm, r5 m hm]⟩
    rw [l27_3, den_loop]
    simp [l27_3, b27_2, go_nil, go_last, go_past, go_pastR, go_blkN, go_blkR, go_blkE, go_skip, go_exit, go_ret, go_scope, go_seq, go_reg, go_regd, go_opdN, go_opd, go_opdG, grdd_b, grdd_u, stpd_some, find_some, go_block, go_cond, cnd_b, go_opsN, go_ops, go_opsG, grd_b, grd_u, stp_some, fin_some, up_some, cont_some, k_call, k_mv, k_pick, k_bin, k_eqB, k_eqA, k_not, k_neg, k_conv, k_alloc, k_boxA, k_boxI, k_boxB, k_boxN, k_boxBs, k_ldR, k_ldA, k_ldI, k_ldB, k_stA, k_stI, k_stB, ldC_some, stC_some, k_mkfn, k_slc, k_slcA, k_ixA, k_ixBs, k_ixSl, k_fadr, k_fld, k_ext, k_len, k_app, k_mn, k_mx, k_nilck, k_build, k_bsl1, k_bsl2, b_add, b_sub, b_mul, b_eql, b_neq, b_lss, b_leq, b_gtr, b_geq, Dn.setLast, Dn.getLast, evalO, mapO, Dn.get, putE, keepE, TV.one, TV.isAgg, Dn.part, wn, e1, e2, go_denK (c := l27_1) rfl, r1, g0, g1, g3, g4, g11, g12, g13, g14]

theorem Arr_id {H : Heap} {t : TV} {l : List Int} (h : elI.Arr H t l) : ∃ id, t.idOf = some id ∧ id < H.length := by
  obtain ⟨id, cap, rfl, h1, h2⟩ := h
  exact ⟨id, rfl, (List.getElem?_eq_some_iff.1 h2).1⟩

theorem mk_zero {pg : Pg} {n : Nat} (hn : n ≤ 36) (H : Heap) : ∃ t H', dkc pg (den pg) (.mksl [.i .i64 0] false 8) [.i .i64 (n : Int), .i .i64 (n : Int)] H = some (t, H') ∧ elI.Arr H' t (wl (fun _ => 0) n) ∧ t.idOf = some H.length ∧ H'.length = H.length + 1 ∧ ∀ j, j < H.length → H'[j]? = H[j]? := by
  have hmk := k_mksl (pg := pg) (R := den pg) [.i .i64 0] false 8 .i64 .i64 n H (by omega) (by omega)
  have harr := El.arr_mksl elI H 0 n
  have hw : wl (fun _ => 0) n = List.replicate n (0 : Int) := by
    apply List.ext_getElem?
    intro i
    by_cases hi : i < n
    · rw [wl_at _ hi, List.getElem?_replicate, if_pos hi]; rfl
    · rw [List.getElem?_eq_none (by rw [wl_len]; omega), List.getElem?_eq_none (by simp; omega)]
  rw [hw]
  exact ⟨_, _, hmk, harr, rfl, by simp, fun j hj => by rw [List.getElem?_append_left hj]⟩

theorem l27_5_all {pg : Pg} (hF : Free pg) {r c a q : Nat} (h : Brd r c) (hq : q ≤ 15) {T : TV} : ∀ (d k : Nat) (M : TV) (H : Heap), k + d = q → elI.Arr H M (wl (walks r c a k) (r * c)) →
    ∃ e M' H', den pg l27_5 [(0, .i .i64 (r : Int)), (1, .i .i64 (c : Int)), (3, T), (4, .i .i64 (q : Int)), (11, M), (12, .i .i64 (k : Int))] H = some ⟨.exit 0, e, H'⟩ ∧ keepE [3, 11] e = [(3, T), (11, M')] ∧ elI.Arr H' M' (wl (walks r c a q) (r * c))
  | 0, k, M, H, hd, hM => by
    obtain rfl : k = q := by omega
    refine ⟨[(0, .i .i64 (r : Int)), (1, .i .i64 (c : Int)), (3, T), (4, .i .i64 (k : Int)), (11, M), (12, .i .i64 (k : Int)), (25, .b false)], M, H, ?_, rfl, hM⟩
    rw [l27_5, den_loop]
    simp [b27_4, go_nil, go_last, go_past, go_pastR, go_blkN, go_blkR, go_blkE, go_skip, go_exit, go_ret, go_scope, go_seq, go_reg, go_regd, go_opdN, go_opd, go_opdG, grdd_b, grdd_u, stpd_some, find_some, go_block, go_cond, cnd_b, go_opsN, go_ops, go_opsG, grd_b, grd_u, stp_some, fin_some, up_some, cont_some, k_call, k_mv, k_pick, k_bin, k_eqB, k_eqA, k_not, k_neg, k_conv, k_alloc, k_boxA, k_boxI, k_boxB, k_boxN, k_boxBs, k_ldR, k_ldA, k_ldI, k_ldB, k_stA, k_stI, k_stB, ldC_some, stC_some, k_mkfn, k_slc, k_slcA, k_ixA, k_ixBs, k_ixSl, k_fadr, k_fld, k_ext, k_len, k_app, k_mn, k_mx, k_nilck, k_build, k_bsl1, k_bsl2, b_add, b_sub, b_mul, b_eql, b_neq, b_lss, b_leq, b_gtr, b_geq, Dn.setLast, Dn.getLast, evalO, mapO, Dn.get, putE, keepE, TV.one, TV.isAgg, Dn.part]
  | d + 1, k, M, H, hd, hM => by
    have hn := h.n36
    obtain ⟨hcast, wn⟩ := rc_facts h
    have e1 : ((k : Int) < (q : Int)) := by omega
    have e2 : wrapR .i64 ((k : Int) + 1) = .i .i64 ((k : Int) + 1) := wrapR_i64 (by omega)
    have hk8 := fun t => walks_le (a := a) h k t
    have p1 := pow15 (k := k) (by omega)
    have hf : ∀ t, psum c (walks r c a k) t (r * c) < 9223372036854775808 := fun t => by
      have h1 := psum_le (c := c) hk8 t (r * c)
      have h2 : ((List.range (r * c)).countP fun s => near c s t) ≤ 36 := Nat.le_trans List.countP_le_length (by simp; exact hn)
      have h3 := Nat.mul_le_mul h2 p1
      omega
    obtain ⟨N, H1, m1, m2, m3, m4, m5⟩ := mk_zero (pg := pg) hn H
    rw [hcast] at m1
    obtain ⟨im, i1, i2⟩ := Arr_id hM
    have hne : ∀ id, M.idOf = some id → N.idOf ≠ some id := fun id h1 h2 => by rw [i1] at h1; rw [m3] at h2; cases h1; cases h2; omega
    have hM1 : elI.Arr H1 M (wl (walks r c a k) (r * c)) := hM.mono fun id hid => by rw [i1] at hid; cases hid; exact m5 _ i2
    have hz : wl (fun _ => 0) (r * c) = wl (nb c (walks r c a k) 0 0) (r * c) := by
      apply List.map_congr_left
      intro t _
      unfold nb; rw [if_neg (by omega)]; rfl
    rw [hz] at m2
    obtain ⟨e, H2, r1, r2, r3, r4, r5⟩ := l27_3_all (pg := pg) hF h hf (T := T) (S := .i .i64 (q : Int)) (K := .i .i64 (k : Int)) hne (r * c) 0 H1 (by omega) hM1 m2
    simp only [Int.natCast_zero] at r1
    have g0 := keep_get r2 (s := 0) (by simp) rfl
    have g1 := keep_get r2 (s := 1) (by simp) rfl
    have g3 := keep_get r2 (s := 3) (by simp) rfl
    have g4 := keep_get r2 (s := 4) (by simp) rfl
    have g12 := keep_get r2 (s := 12) (by simp) rfl
    have g13 := keep_get r2 (s := 13) (by simp) rfl
    obtain ⟨e', M', H3, b1, b2, b3⟩ := l27_5_all hF h hq (T := T) d (k + 1) N H2 (by omega) r3
    refine ⟨e', M', H3, Eq.trans ?_ b1, b2, b3⟩
    rw [l27_5, den_loop]
    simp [l27_5, b27_4, go_nil, go_last, go_past, go_pastR, go_blkN, go_blkR, go_blkE, go_skip, go_exit, go_ret, go_scope, go_seq, go_reg, go_regd, go_opdN, go_opd, go_opdG, grdd_b, grdd_u, stpd_some, find_some, go_block, go_cond, cnd_b, go_opsN, go_ops, go_opsG, grd_b, grd_u, stp_some, fin_some, up_some, cont_some, k_call, k_mv, k_pick, k_bin, k_eqB, k_eqA, k_not, k_neg, k_conv, k_alloc, k_boxA, k_boxI, k_boxB, k_boxN, k_boxBs, k_ldR, k_ldA, k_ldI, k_ldB, k_stA, k_stI, k_stB, ldC_some, stC_some, k_mkfn, k_slc, k_slcA, k_ixA, k_ixBs, k_ixSl, k_fadr, k_fld, k_ext, k_len, k_app, k_mn, k_mx, k_nilck, k_build, k_bsl1, k_bsl2, b_add, b_sub, b_mul, b_eql, b_neq, b_lss, b_leq, b_gtr, b_geq, Dn.setLast, Dn.getLast, evalO, mapO, Dn.get, putE, keepE, TV.one, TV.isAgg, Dn.part, wn, e1, e2, m1, go_denK (c := l27_3) rfl, r1, g0, g1, g3, g4, g12, g13]

theorem fn27 {pg : Pg} (hF : Free pg) {r c a b q : Nat} (h : Brd r c) (ha : a < r * c) (hb : b < r * c) (hq : q ≤ 15) :
    PFn pg 27 [.i .i64 (r : Int), .i .i64 (c : Int), .i .i64 (a : Int), .i .i64 (b : Int), .i .i64 (q : Int)] (.i .i64 (walks r c a q b : Int)) := by
  have hn := h.n36
  obtain ⟨hcast, wn⟩ := rc_facts h
  obtain ⟨M, H1, m1, m2, m3, m4, m5⟩ := mk_zero (pg := pg) hn []
  rw [hcast] at m1
  obtain ⟨p, p1, _, p3, _⟩ := El.Arr.at (pg := pg) (R := den pg) m2 (wl_at (fun _ => 0) ha) .i64
  obtain ⟨H2, s1, s2, s3, s4⟩ := p3 1
  have p1' : dkc pg (den pg) (.ixS 1 false) [M, .i .i64 (a : Int)] H1 = some (p, H1) := p1
  have s1' : dkc pg (den pg) (.st 1) [p, .i .i64 1] H1 = some (.undef, H2) := s1
  have hqr : ∃ id o, p = .ref id o := by
    cases p <;> first | exact ⟨_, _, rfl⟩ | (simp [dkc, dk] at s1'; done)
  obtain ⟨qi, qo, rfl⟩ := hqr
  rw [k_stI] at s1'
  have hw0 : (wl (fun _ => 0) (r * c)).set a 1 = wl (walks r c a 0) (r * c) := by
    have := wl_set (fun _ => 0) ha 1
    simp only [Int.cast_ofNat_Int] at this
    rw [this]
    congr 1
  rw [hw0] at s2
  obtain ⟨e, M', H3, r1, r2, r3⟩ := l27_5_all (pg := pg) hF (a := a) h hq (T := .i .i64 (b : Int)) q 0 M H2 (by omega) s2
  simp only [Int.natCast_zero] at r1
  have g3 := keep_get r2 (s := 3) (by simp) rfl
  have g11 := keep_get r2 (s := 11) (by simp) rfl
  obtain ⟨z, z1, z2⟩ := ixI (pg := pg) (R := den pg) r3.view (wl_at (walks r c a q) hb)
  refine .of1 (x := .ret) (e := [(10, .i .i64 (walks r c a q b : Int))]) (H' := H3) (hF.S _ _ (by decide)) (d := d27) (by rw [hF.F]; rfl) rfl ?_ (.inl rfl) rfl (by simp [sn_i, sn_b, sn_nil, sn8_i, sn8_b, sn8_nil, sn7_i, sn7_b, sn_sl, sn8_sl, slB_some, sn_tup, sn_agg, sn8_agg, mapO, elems])
  generalize walks r c a q b = res at *
  simp [d27, c27, zipE, go_nil, go_last, go_past, go_pastR, go_blkN, go_blkR, go_blkE, go_skip, go_exit, go_ret, go_scope, go_seq, go_reg, go_regd, go_opdN, go_opd, go_opdG, grdd_b, grdd_u, stpd_some, find_some, go_block, go_cond, cnd_b, go_opsN, go_ops, go_opsG, grd_b, grd_u, stp_some, fin_some, up_some, cont_some, k_call, k_mv, k_pick, k_bin, k_eqB, k_eqA, k_not, k_neg, k_conv, k_alloc, k_boxA, k_boxI, k_boxB, k_boxN, k_boxBs, k_ldR, k_ldA, k_ldI, k_ldB, k_stA, k_stI, k_stB, ldC_some, stC_some, k_mkfn, k_slc, k_slcA, k_ixA, k_ixBs, k_ixSl, k_fadr, k_fld, k_ext, k_len, k_app, k_mn, k_mx, k_nilck, k_build, k_bsl1, k_bsl2, b_add, b_sub, b_mul, b_eql, b_neq, b_lss, b_leq, b_gtr, b_geq, Dn.setLast, Dn.getLast, evalO, mapO, Dn.get, putE, keepE, TV.one, TV.isAgg, Dn.part, wn, m1, p1', s1', go_denK (c := l27_5) rfl, r1, g3, g11, z1, z2]

/-- a board of any numbers -/
theorem fn18 {pg : Pg} (hF : Free pg) (x y : Int) : ∃ r c : Nat, Brd r c ∧ PFn pg 18 [.i .i64 x, .i .i64 y] (.tup [.i .i64 (r : Int), .i .i64 (c : Int)]) := by
  have conv : ∀ v : Int, ∃ w m : Nat, wrapR .u64 v = .i .u64 (w : Int) ∧ binI .rem (.i .u64 (w : Int)) (.i .u64 8) = some (.i .u64 (m : Int)) ∧ m < 8 := fun v => by
    obtain ⟨w, hw⟩ : ∃ w : Nat, IntKind.wrap .u64 v = (w : Int) := ⟨(IntKind.wrap .u64 v).toNat, by simp only [IntKind.wrap, IntKind.signed, IntKind.bits, Bool.false_and, Bool.false_eq_true, if_false]; omega⟩
    refine ⟨w, w % 8, by unfold wrapR; rw [hw], ?_, Nat.mod_lt _ (by decide)⟩
    have := tmod_nat w 8
    simp only [Int.cast_ofNat_Int] at this
    rw [b_rem, if_neg (by decide), this]
  obtain ⟨w1, m1, a1, a2, a3⟩ := conv x
  obtain ⟨w2, m2, b1, b2, b3⟩ := conv y
  have c1 : wrapR .i64 (m1 : Int) = .i .i64 (m1 : Int) := wrapR_i64 (by omega)
  have c2 : wrapR .i64 (m2 : Int) = .i .i64 (m2 : Int) := wrapR_i64 (by omega)
  have d1 : wrapR .i64 (1 + (m1 : Int)) = .i .i64 ((m1 + 1 : Nat) : Int) := by rw [show 1 + (m1 : Int) = ((m1 + 1 : Nat) : Int) by omega]; exact wrapR_i64 (by omega)
  have d2 : wrapR .i64 (1 + (m2 : Int)) = .i .i64 ((m2 + 1 : Nat) : Int) := by rw [show 1 + (m2 : Int) = ((m2 + 1 : Nat) : Int) by omega]; exact wrapR_i64 (by omega)
  obtain ⟨r, hr⟩ : ∃ r, r = m1 + 1 := ⟨_, rfl⟩
  obtain ⟨c, hc⟩ : ∃ c, c = m2 + 1 := ⟨_, rfl⟩
  rw [← hr] at d1
  rw [← hc] at d2
  have hr8 : 1 ≤ r ∧ r ≤ 8 := by omega
  have hc8 : 1 ≤ c ∧ c ≤ 8 := by omega
  have hcast : ((r * c : Nat) : Int) = (r : Int) * c := by simp
  have hmul : r * c ≤ 64 := Nat.mul_le_mul hr8.2 hc8.2
  have wn : wrapR .i64 ((r : Int) * (c : Int)) = .i .i64 ((r : Int) * (c : Int)) := wrapR_i64 (by rw [← hcast]; omega)
  have hd : pg.F 18 = some d18 := by rw [hF.F]; rfl
  by_cases q1 : 36 < r * c
  · have q1' : (36 : Int) < (r : Int) * (c : Int) := by rw [← hcast]; omega
    by_cases q2 : c < r
    · have td := tdiv_nat 36 c
      have c0 : ¬ c = 0 := by omega
      have w36 := (fun z hz => wrapR_i64 (by omega) : ∀ z : Nat, z ≤ 36 → wrapR .i64 (z : Int) = .i .i64 (z : Int)) (36 / c) (Nat.div_le_self 36 c)
      have hle : 36 / c * c ≤ 36 := Nat.div_mul_le_self 36 c
      have hge : 1 ≤ 36 / c := (Nat.one_le_div_iff (by omega)).2 (by omega)
      have hle8 : 36 / c ≤ 8 := by
        have h1 : 36 / c < r := Nat.div_lt_of_lt_mul (by rw [Nat.mul_comm]; exact q1)
        omega
      refine ⟨36 / c, c, ⟨hge, hc8.1, hle8, hc8.2, hle⟩, .of2 (x := .ret) (e := [(4, .i .i64 ((36 / c : Nat) : Int)), (5, .i .i64 (c : Int))]) (H' := []) (vs := [.i .i64 ((36 / c : Nat) : Int), .i .i64 (c : Int)]) (hF.S _ _ (by decide)) hd rfl ?_ (.inl rfl) rfl (by simp) (by simp [sn_i, sn_b, sn_nil, sn8_i, sn8_b, sn8_nil, sn7_i, sn7_b, sn_sl, sn8_sl, slB_some, sn_tup, sn_agg, sn8_agg, mapO, elems])⟩
      simp only [Int.cast_ofNat_Int] at td
      generalize 36 / c = z at *
      simp [d18, c18, zipE, go_nil, go_last, go_past, go_pastR, go_blkN, go_blkR, go_blkE, go_skip, go_exit, go_ret, go_scope, go_seq, go_reg, go_regd, go_opdN, go_opd, go_opdG, grdd_b, grdd_u, stpd_some, find_some, go_block, go_cond, cnd_b, go_opsN, go_ops, go_opsG, grd_b, grd_u, stp_some, fin_some, up_some, cont_some, k_call, k_mv, k_pick, k_bin, k_eqB, k_eqA, k_not, k_neg, k_conv, k_alloc, k_boxA, k_boxI, k_boxB, k_boxN, k_boxBs, k_ldR, k_ldA, k_ldI, k_ldB, k_stA, k_stI, k_stB, ldC_some, stC_some, k_mkfn, k_slc, k_slcA, k_ixA, k_ixBs, k_ixSl, k_fadr, k_fld, k_ext, k_len, k_app, k_mn, k_mx, k_nilck, k_build, k_bsl1, k_bsl2, b_add, b_sub, b_mul, b_eql, b_neq, b_lss, b_leq, b_gtr, b_geq, Dn.setLast, Dn.getLast, evalO, mapO, Dn.get, putE, keepE, TV.one, TV.isAgg, Dn.part, b_quo, a1, a2, b1, b2, c1, c2, d1, d2, wn, q1', q2, td, c0, w36]
    · have td := tdiv_nat 36 r
      have r0 : ¬ r = 0 := by omega
      have w36 := (fun z hz => wrapR_i64 (by omega) : ∀ z : Nat, z ≤ 36 → wrapR .i64 (z : Int) = .i .i64 (z : Int)) (36 / r) (Nat.div_le_self 36 r)
      have hle : 36 / r * r ≤ 36 := Nat.div_mul_le_self 36 r
      have hge : 1 ≤ 36 / r := (Nat.one_le_div_iff (by omega)).2 (by omega)
      have hle8 : 36 / r ≤ 8 := by
        have h1 : 36 / r < c := Nat.div_lt_of_lt_mul q1
        omega
      refine ⟨r, 36 / r, ⟨hr8.1, hge, hr8.2, hle8, by rw [Nat.mul_comm]; exact hle⟩, .of2 (x := .ret) (e := [(4, .i .i64 (r : Int)), (5, .i .i64 ((36 / r : Nat) : Int))]) (H' := []) (vs := [.i .i64 (r : Int), .i .i64 ((36 / r : Nat) : Int)]) (hF.S _ _ (by decide)) hd rfl ?_ (.inl rfl) rfl (by simp) (by simp [sn_i, sn_b, sn_nil, sn8_i, sn8_b, sn8_nil, sn7_i, sn7_b, sn_sl, sn8_sl, slB_some, sn_tup, sn_agg, sn8_agg, mapO, elems])⟩
      simp only [Int.cast_ofNat_Int] at td
      generalize 36 / r = z at *
      simp [d18, c18, zipE, go_nil, go_last, go_past, go_pastR, go_blkN, go_blkR, go_blkE, go_skip, go_exit, go_ret, go_scope, go_seq, go_reg, go_regd, go_opdN, go_opd, go_opdG, grdd_b, grdd_u, stpd_some, find_some, go_block, go_cond, cnd_b, go_opsN, go_ops, go_opsG, grd_b, grd_u, stp_some, fin_some, up_some, cont_some, k_call, k_mv, k_pick, k_bin, k_eqB, k_eqA, k_not, k_neg, k_conv, k_alloc, k_boxA, k_boxI, k_boxB, k_boxN, k_boxBs, k_ldR, k_ldA, k_ldI, k_ldB, k_stA, k_stI, k_stB, ldC_some, stC_some, k_mkfn, k_slc, k_slcA, k_ixA, k_ixBs, k_ixSl, k_fadr, k_fld, k_ext, k_len, k_app, k_mn, k_mx, k_nilck, k_build, k_bsl1, k_bsl2, b_add, b_sub, b_mul, b_eql, b_neq, b_lss, b_leq, b_gtr, b_geq, Dn.setLast, Dn.getLast, evalO, mapO, Dn.get, putE, keepE, TV.one, TV.isAgg, Dn.part, b_quo, a1, a2, b1, b2, c1, c2, d1, d2, wn, q1', q2, td, r0, w36]
  · have q1' : ¬ (36 : Int) < (r : Int) * (c : Int) := by rw [← hcast]; omega
    refine ⟨r, c, ⟨hr8.1, hc8.1, hr8.2, hc8.2, by omega⟩, .of2 (x := .ret) (e := [(4, .i .i64 (r : Int)), (5, .i .i64 (c : Int))]) (H' := []) (vs := [.i .i64 (r : Int), .i .i64 (c : Int)]) (hF.S _ _ (by decide)) hd rfl ?_ (.inl rfl) rfl (by simp) (by simp [sn_i, sn_b, sn_nil, sn8_i, sn8_b, sn8_nil, sn7_i, sn7_b, sn_sl, sn8_sl, slB_some, sn_tup, sn_agg, sn8_agg, mapO, elems])⟩
    simp [d18, c18, zipE, go_nil, go_last, go_past, go_pastR, go_blkN, go_blkR, go_blkE, go_skip, go_exit, go_ret, go_scope, go_seq, go_reg, go_regd, go_opdN, go_opd, go_opdG, grdd_b, grdd_u, stpd_some, find_some, go_block, go_cond, cnd_b, go_opsN, go_ops, go_opsG, grd_b, grd_u, stp_some, fin_some, up_some, cont_some, k_call, k_mv, k_pick, k_bin, k_eqB, k_eqA, k_not, k_neg, k_conv, k_alloc, k_boxA, k_boxI, k_boxB, k_boxN, k_boxBs, k_ldR, k_ldA, k_ldI, k_ldB, k_stA, k_stI, k_stB, ldC_some, stC_some, k_mkfn, k_slc, k_slcA, k_ixA, k_ixBs, k_ixSl, k_fadr, k_fld, k_ext, k_len, k_app, k_mn, k_mx, k_nilck, k_build, k_bsl1, k_bsl2, b_add, b_sub, b_mul, b_eql, b_neq, b_lss, b_leq, b_gtr, b_geq, Dn.setLast, Dn.getLast, evalO, mapO, Dn.get, putE, keepE, TV.one, TV.isAgg, Dn.part, b_quo, a1, a2, b1, b2, c1, c2, d1, d2, wn, q1']

theorem call18 {pg : Pg} (hF : Free pg) (x y : Int) : ∃ r c : Nat, Brd r c ∧ ∀ H, callRun pg (den pg) (.pu []) [.fn 18 [] [], .i .i64 x, .i .i64 y] H = some (.tup [.i .i64 (r : Int), .i .i64 (c : Int)], H) := by
  obtain ⟨r, c, h1, h2⟩ := fn18 hF x y
  exact ⟨r, c, h1, fun H => PFn.call h2 (args := [.i .i64 x, .i .i64 y]) (by simp [snapArgs, sn_i])⟩

end Go.Proofs.Tryd.Dn

