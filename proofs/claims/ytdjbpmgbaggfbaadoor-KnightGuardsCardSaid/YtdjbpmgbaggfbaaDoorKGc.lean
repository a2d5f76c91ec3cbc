/-
  Knight: the reference's least number of guards.
-/
import Derived.Test.YtdjbpmgbaggfbaaDoorKGb
import Derived.Test.YtdjbpmgbaggfbaaDoorKe
import Derived.Test.YtdjbpmgbaggfbaaDoorKfg
set_option linter.unusedSimpArgs false
set_option linter.unusedVariables false

namespace Go.Proofs.Tryd.Dn
open Go.Dn

def upto (f : Nat → Nat) (k : Nat) : Nat → Nat := fun t => if t < k then f t else 0
theorem upto_upd (f : Nat → Nat) (k : Nat) : upd (upto f k) k (f k) = upto f (k + 1) := by
  funext t
  unfold upd upto
  by_cases h : t = k
  · subst h; simp
  · by_cases h2 : t < k
    · rw [if_neg h, if_pos h2, if_pos (by omega)]
    · rw [if_neg h, if_neg h2, if_neg (by omega)]
theorem upto_zero (f : Nat → Nat) (n : Nat) : wl (upto f 0) n = List.replicate n 0 := by
  refine List.ext_getElem (by simp [wl]) fun i h1 h2 => ?_
  simp [wl, upto]

def nv (r c i : Nat) : Nat := cov r c (2 ^ i)

theorem cov_split {r c x t : Nat} (h : Brd r c) (hx : x < 2 ^ t) (ht : t < r * c) : cov r c (2 ^ t + x) = cov r c x ||| nv r c t ∧ 2 ^ t + x < 2 ^ (r * c) := by
  have e : 2 ^ t + x = 2 ^ t ||| x := by have := Nat.two_pow_add_eq_or_of_lt hx 1; simpa using this
  have h2 : 2 ^ t < 2 ^ (r * c) := Nat.pow_lt_pow_right (by decide) ht
  have hxn : x < 2 ^ (r * c) := by omega
  have hlt : 2 ^ t + x < 2 ^ (r * c) := by rw [e]; exact or_lt h2 hxn
  refine ⟨Nat.eq_of_testBit_eq fun i => ?_, hlt⟩
  by_cases hi : i < r * c
  · rw [Bool.eq_iff_iff, cov_bit h hlt hi, Nat.testBit_or, Bool.or_eq_true, cov_bit h hxn hi]
    unfold nv
    rw [cov_bit h h2 hi, e]
    simp only [Nat.testBit_or, Bool.or_eq_true]
    constructor
    · rintro ((h | h) | ⟨s, h | h, h3⟩)
      · exact .inr (.inl h)
      · exact .inl (.inl h)
      · exact .inr (.inr ⟨s, h, h3⟩)
      · exact .inl (.inr ⟨s, h, h3⟩)
    · rintro ((h | ⟨s, h, h3⟩) | (h | ⟨s, h, h3⟩))
      · exact .inl (.inr h)
      · exact .inr ⟨s, .inr h, h3⟩
      · exact .inl (.inl h)
      · exact .inr ⟨s, .inl h, h3⟩
  · have big : ∀ y, y < 2 ^ (r * c) → y.testBit i = false := fun y hy => Nat.testBit_lt_two_pow (Nat.lt_of_lt_of_le hy (Nat.pow_le_pow_right (by decide) (by omega)))
    unfold nv
    rw [Nat.testBit_or, big _ (cov_lt h hlt), big _ (cov_lt h hxn), big _ (cov_lt h h2)]
    rfl

theorem pop_one1 : ∀ k, pop (k + 1) 1 = 1 := fun k => by rw [pop]; simp [pop_zero]

theorem pop_split {x t : Nat} (hx : x < 2 ^ t) (ht : t < 64) : pop 64 (2 ^ t + x) = pop 64 x + 1 := by
  have h1 := pop_add t (64 - t) (2 ^ t + x)
  have h2 := pop_add t (64 - t) x
  have hp := Nat.two_pow_pos t
  have e1 : (2 ^ t + x) / 2 ^ t = 1 := by rw [Nat.add_div_left _ hp, Nat.div_eq_of_lt hx]
  have e2 : pop t (2 ^ t + x) = pop t x := by rw [← pop_mod, Nat.add_mod_left, pop_mod]
  rw [show t + (64 - t) = 64 by omega] at h1 h2
  rw [h1, h2, e1, e2, Nat.div_eq_of_lt hx, pop_zero, show 64 - t = (64 - t - 1) + 1 by omega, pop_one1]

theorem shl_2 {t : Nat} (ht : t < 62) : binI .shl (.i .i64 2) (.i .i64 (t : Int)) = some (.i .i64 ((2 ^ (t + 1) : Nat) : Int)) := by
  have h1 : 2 ^ (t + 1) ≤ 2 ^ 62 := Nat.pow_le_pow_right (by decide) (by omega)
  have h0 : ¬ ((t : Int) < 0) := by omega
  have hm : min t 64 = t := by omega
  simp only [binI, if_neg h0, Int.toNat_natCast, IntKind.bits, hm]
  have e : (2 : Int) * 2 ^ t = ((2 ^ (t + 1) : Nat) : Int) := by rw [Nat.pow_succ]; push_cast; rw [Int.mul_comm]
  rw [e]
  have h3 : 2 ^ (t + 1) ≤ 4611686018427387904 := h1
  generalize 2 ^ (t + 1) = Y at *
  exact congrArg some (wrapR_i64 (by omega))

theorem l56_1_all {pg : Pg} (hF : Free pg) {r c : Nat} (h : Brd r c) {N : TV} : ∀ (d i : Nat) (H : Heap), i + d = r * c → elI.Arr H N (wl (upto (nv r c) i) (r * c)) →
    ∃ e H', den pg l56_1 [(0, .i .i64 (r : Int)), (1, .i .i64 (c : Int)), (5, .i .i64 ((r * c : Nat) : Int)), (6, N), (7, .i .i64 (i : Int))] H = some ⟨.exit 0, e, H'⟩ ∧ Dn.get e 5 = some (.i .i64 ((r * c : Nat) : Int)) ∧ Dn.get e 6 = some N ∧
      elI.Arr H' N (wl (nv r c) (r * c)) ∧ H'.length = H.length
  | 0, i, H, hd, hN => by
    have hn := h.n36
    have d0 : decide ((i : Int) < ((r * c : Nat) : Int)) = false := dF (by omega)
    have he : wl (upto (nv r c) i) (r * c) = wl (nv r c) (r * c) := by
      refine List.ext_getElem (by simp [wl]) fun j h1 h2 => ?_
      simp [wl] at h1
      simp [wl, upto, show j < i by omega]
    rw [he] at hN
    obtain ⟨n, hnn⟩ : ∃ n : Nat, n = r * c := ⟨_, rfl⟩
    rw [← hnn] at d0 hN ⊢
    have key : ∀ M : Int, decide ((i : Int) < M) = false → ∃ e, den pg l56_1 [(0, .i .i64 (r : Int)), (1, .i .i64 (c : Int)), (5, .i .i64 M), (6, N), (7, .i .i64 (i : Int))] H = some ⟨.exit 0, e, H⟩ ∧ Dn.get e 5 = some (.i .i64 M) ∧ Dn.get e 6 = some N := fun M d0 => ⟨_, by
      rw [l56_1, den_loop]
      simp (disch := omega) [b56_0, go_nil, go_last, go_past, go_pastR, go_blkN, go_blkR, go_blkE, go_skip, go_exit, go_ret, go_scope, go_seq, go_reg, go_regd, go_opdN, go_opd, go_opdG, grdd_b, grdd_u, stpd_some, find_some, go_block, go_cond, cnd_b, go_opsN, go_ops, go_opsG, grd_b, grd_u, stp_some, fin_some, up_some, cont_some, k_call, k_mv, k_pick, k_bin, k_eqB, k_eqA, k_not, k_neg, k_conv, k_alloc, k_boxA, k_boxI, k_boxB, k_boxN, k_boxBs, k_ldR, k_ldA, k_ldI, k_ldB, k_stA, k_stI, k_stB, ldC_some, stC_some, k_mkfn, k_slc, k_slcA, k_ixA, k_ixBs, k_ixSl, k_fadr, k_fld, k_ext, k_len, k_app, k_mn, k_mx, k_nilck, k_build, k_bsl1, k_bsl2, b_add, b_sub, b_mul, b_eql, b_neq, b_lss, b_leq, b_gtr, b_geq, Dn.setLast, Dn.getLast, evalO, mapO, Dn.get, putE, keepE_nil, keepE_cons, kp_some, kp_none, TV.one, TV.isAgg, Dn.part, k_boxR, negb, at0, at1, at2, at3, at4, dT, dF, wrapR_i64, Option.bind_some, Option.map_some, d0]
      rfl, rfl, rfl⟩
    obtain ⟨e, e1, e2, e3⟩ := key (n : Int) d0
    exact ⟨e, H, e1, e2, e3, hN, rfl⟩
  | d + 1, i, H, hd, hN => by
    have hn := h.n36
    have h63 := lt63 h
    have hi : i < r * c := by omega
    have h2i : 2 ^ i < 2 ^ (r * c) := Nat.pow_lt_pow_right (by decide) hi
    have hx : (wl (upto (nv r c) i) (r * c))[i]? = some ((0 : Nat) : Int) := by rw [wl_at _ hi]; simp [upto]
    obtain ⟨id, o, _, a1, _, a3⟩ := arrI (pg := pg) (R := den pg) hN hx
    obtain ⟨H', s1, s2, s3, _⟩ := a3 (nv r c i : Int)
    rw [wl_set _ hi, upto_upd] at s2
    obtain ⟨e, H2, q1, q2, q3, q4, q5⟩ := l56_1_all hF h d (i + 1) H' (by omega) s2
    refine ⟨e, H2, Eq.trans ?_ q1, q2, q3, q4, by omega⟩
    have c67 := call67 (pg := pg) hF h h2i H
    have har := around_lt h h2i
    have orr := or_ii (m := around r c (2 ^ i)) (k := 2 ^ i) (by omega) (by omega)
    rw [Nat.or_comm, show 2 ^ i ||| around r c (2 ^ i) = nv r c i from rfl] at orr
    have sh := Dn.shl_i (k := .i64) (c := i) (by omega)
    have d0 : decide ((i : Int) < ((r * c : Nat) : Int)) = true := dT (by omega)
    rw [l56_1, den_loop]
    generalize ((r * c : Nat) : Int) = M at *
    generalize around r c (2 ^ i) = AR at *
    generalize nv r c i = NV at *
    generalize ((2 ^ i : Nat) : Int) = Z at *
    simp (disch := omega) [l56_1, b56_0, go_nil, go_last, go_past, go_pastR, go_blkN, go_blkR, go_blkE, go_skip, go_exit, go_ret, go_scope, go_seq, go_reg, go_regd, go_opdN, go_opd, go_opdG, grdd_b, grdd_u, stpd_some, find_some, go_block, go_cond, cnd_b, go_opsN, go_ops, go_opsG, grd_b, grd_u, stp_some, fin_some, up_some, cont_some, k_call, k_mv, k_pick, k_bin, k_eqB, k_eqA, k_not, k_neg, k_conv, k_alloc, k_boxA, k_boxI, k_boxB, k_boxN, k_boxBs, k_ldR, k_ldA, k_ldI, k_ldB, k_stA, k_stI, k_stB, ldC_some, stC_some, k_mkfn, k_slc, k_slcA, k_ixA, k_ixBs, k_ixSl, k_fadr, k_fld, k_ext, k_len, k_app, k_mn, k_mx, k_nilck, k_build, k_bsl1, k_bsl2, b_add, b_sub, b_mul, b_eql, b_neq, b_lss, b_leq, b_gtr, b_geq, Dn.setLast, Dn.getLast, evalO, mapO, Dn.get, putE, keepE_nil, keepE_cons, kp_some, kp_none, TV.one, TV.isAgg, Dn.part, k_boxR, negb, at0, at1, at2, at3, at4, dT, dF, wrapR_i64, Option.bind_some, Option.map_some, d0, sh, c67, orr, a1, k_stI, s1]


set_option maxHeartbeats 400000 in
theorem l56_3_all {pg : Pg} (hF : Free pg) {r c : Nat} (h : Brd r c) (h16 : r * c ≤ 16) {N C S : TV} (hNC : ∀ j, C.idOf = some j → N.idOf ≠ some j) (hNS : ∀ j, S.idOf = some j → N.idOf ≠ some j) (hCS : ∀ j, C.idOf = some j → S.idOf ≠ some j) :
    ∀ (d set top best : Nat) (H : Heap), set + d = 2 ^ (r * c) → 0 < set → 2 ^ top ≤ set → set ≤ 2 ^ (top + 1) → elI.Arr H N (wl (nv r c) (r * c)) → elI.Arr H C (wl (upto (cov r c) set) (2 ^ (r * c))) → elI.Arr H S (wl (upto (pop 64) set) (2 ^ (r * c))) →
      (∃ g, g < 2 ^ (r * c) ∧ gdB r c g = true ∧ pop 64 g = best) → (∀ g, 0 < g → g < set → gdB r c g = true → best ≤ pop 64 g) →
      ∃ (e : Env) (H' : Heap) (m : Nat), den pg l56_3 [(5, .i .i64 ((r * c : Nat) : Int)), (6, N), (8, C), (9, S), (10, .i .i64 (best : Int)), (11, .i .i64 (top : Int)), (12, .i .i64 (set : Int))] H = some ⟨.exit 2, e, H'⟩ ∧ Dn.get e 10 = some (.i .i64 (m : Int)) ∧
        (∃ g, g < 2 ^ (r * c) ∧ gdB r c g = true ∧ pop 64 g = m) ∧ (∀ g, 0 < g → g < 2 ^ (r * c) → gdB r c g = true → m ≤ pop 64 g) := by
  have h63 := lt63 h
  have h16' : 2 ^ (r * c) ≤ 2 ^ 16 := Nat.pow_le_pow_right (by decide) h16
  have sh := Dn.shl_i (k := .i64) (c := r * c) (by omega)
  intro d
  induction d with
  | zero =>
    intro set top best H hd h0 ht1 ht2 hN hC hS hex hall
    have d0 : decide ((set : Int) < ((2 ^ (r * c) : Nat) : Int)) = false := dF (by omega)
    have key : ∀ M P : Int, binI .shl (.i .i64 1) (.i .i64 M) = some (.i .i64 P) → decide ((set : Int) < P) = false → ∃ e, den pg l56_3 [(5, .i .i64 M), (6, N), (8, C), (9, S), (10, .i .i64 (best : Int)), (11, .i .i64 (top : Int)), (12, .i .i64 (set : Int))] H = some ⟨.exit 2, e, H⟩ ∧ Dn.get e 10 = some (.i .i64 (best : Int)) := fun M P sh d0 => ⟨_, by
      rw [l56_3, den_loop]
      simp (disch := omega) [b56_2, go_nil, go_last, go_past, go_pastR, go_blkN, go_blkR, go_blkE, go_skip, go_exit, go_ret, go_scope, go_seq, go_reg, go_regd, go_opdN, go_opd, go_opdG, grdd_b, grdd_u, stpd_some, find_some, go_block, go_cond, cnd_b, go_opsN, go_ops, go_opsG, grd_b, grd_u, stp_some, fin_some, up_some, cont_some, k_call, k_mv, k_pick, k_bin, k_eqB, k_eqA, k_not, k_neg, k_conv, k_alloc, k_boxA, k_boxI, k_boxB, k_boxN, k_boxBs, k_ldR, k_ldA, k_ldI, k_ldB, k_stA, k_stI, k_stB, ldC_some, stC_some, k_mkfn, k_slc, k_slcA, k_ixA, k_ixBs, k_ixSl, k_fadr, k_fld, k_ext, k_len, k_app, k_mn, k_mx, k_nilck, k_build, k_bsl1, k_bsl2, b_add, b_sub, b_mul, b_eql, b_neq, b_lss, b_leq, b_gtr, b_geq, Dn.setLast, Dn.getLast, evalO, mapO, Dn.get, putE, keepE_nil, keepE_cons, kp_some, kp_none, TV.one, TV.isAgg, Dn.part, k_boxR, negb, at0, at1, at2, at3, at4, dT, dF, wrapR_i64, Option.bind_some, Option.map_some, d0, sh]
      rfl, rfl⟩
    obtain ⟨e, e1, e2⟩ := key _ _ sh d0
    refine ⟨e, H, best, e1, e2, ?_, ?_⟩
    · exact hex
    · intro g g0 g1 g2
      have hgs : g < set := by omega
      exact hall g g0 hgs g2
  | succ d ih =>
    intro set top best H hd h0 ht1 ht2 hN hC hS hex hall
    have hset : set < 2 ^ (r * c) := by omega
    -- the greatest square
    obtain ⟨tp, htp, hb1, hb2⟩ : ∃ tp, tp = (if 2 ^ (top + 1) ≤ set then top + 1 else top) ∧ 2 ^ tp ≤ set ∧ set < 2 ^ (tp + 1) := by
      by_cases hge : 2 ^ (top + 1) ≤ set
      · exact ⟨top + 1, by rw [if_pos hge], hge, by rw [Nat.pow_succ 2 (top + 1)]; have := Nat.two_pow_pos (top + 1); omega⟩
      · exact ⟨top, by rw [if_neg hge], ht1, by omega⟩
    have htn : tp < r * c := by
      rcases Nat.lt_or_ge tp (r * c) with g | g
      · exact g
      · have := Nat.pow_le_pow_right (n := 2) (by decide) g; omega
    have htopn : top ≤ tp := by rw [htp]; split <;> omega
    obtain ⟨less, hls⟩ : ∃ less, set = 2 ^ tp + less := ⟨set - 2 ^ tp, by omega⟩
    have hless : less < 2 ^ tp := by rw [Nat.pow_succ] at hb2; omega
    have hll : less < set := by have := Nat.two_pow_pos tp; omega
    obtain ⟨hcs, _⟩ := cov_split h hless htn
    have hps := pop_split hless (t := tp) (by omega)
    rw [← hls] at hcs hps
    have hxl : less < 2 ^ (r * c) := by omega
    have hpl := pop_le 64 less
    -- what stands there
    have xC : (wl (upto (cov r c) set) (2 ^ (r * c)))[less]? = some (cov r c less : Int) := by rw [wl_at _ hxl]; simp [upto, hll]
    have xN : (wl (nv r c) (r * c))[tp]? = some (nv r c tp : Int) := wl_at _ htn
    have xC0 : (wl (upto (cov r c) set) (2 ^ (r * c)))[set]? = some ((0 : Nat) : Int) := by rw [wl_at _ hset]; simp [upto]
    obtain ⟨cid, co, c1, c2, c3, _⟩ := arrI (pg := pg) (R := den pg) hC xC
    obtain ⟨nid, no, n1, n2, n3, _⟩ := arrI (pg := pg) (R := den pg) hN xN
    obtain ⟨cid', co', c1', c2', _, c4⟩ := arrI (pg := pg) (R := den pg) hC xC0
    obtain ⟨H1, s1, s2, s3, s4⟩ := c4 (cov r c set : Int)
    rw [wl_set _ hset, upto_upd] at s2
    have hN1 : elI.Arr H1 N (wl (nv r c) (r * c)) := hN.mono fun j hj => s4 j fun hc => hNC j hc hj
    have hS1 : elI.Arr H1 S (wl (upto (pop 64) set) (2 ^ (r * c))) := hS.mono fun j hj => s4 j fun hc => hCS j hc hj
    have xS : (wl (upto (pop 64) set) (2 ^ (r * c)))[less]? = some (pop 64 less : Int) := by rw [wl_at _ hxl]; simp [upto, hll]
    have xS0 : (wl (upto (pop 64) set) (2 ^ (r * c)))[set]? = some ((0 : Nat) : Int) := by rw [wl_at _ hset]; simp [upto]
    obtain ⟨sid, so, t1, t2, t3, _⟩ := arrI (pg := pg) (R := den pg) hS1 xS
    obtain ⟨sid', so', t1', t2', _, t4⟩ := arrI (pg := pg) (R := den pg) hS1 xS0
    obtain ⟨H2, u1, u2, u3, u4⟩ := t4 (pop 64 set : Int)
    rw [wl_set _ hset, upto_upd] at u2
    have hN2 : elI.Arr H2 N (wl (nv r c) (r * c)) := hN1.mono fun j hj => u4 j fun hc => hNS j hc hj
    have hC2 : elI.Arr H2 C (wl (upto (cov r c) (set + 1)) (2 ^ (r * c))) := s2.mono fun j hj => u4 j fun hc => hCS j hj hc
    have yC : (wl (upto (cov r c) (set + 1)) (2 ^ (r * c)))[set]? = some (cov r c set : Int) := by rw [wl_at _ hset]; simp [upto]
    have yS : (wl (upto (pop 64) (set + 1)) (2 ^ (r * c)))[set]? = some (pop 64 set : Int) := by rw [wl_at _ hset]; simp [upto]
    obtain ⟨aid, ao, _, a2, a3, _⟩ := arrI (pg := pg) (R := den pg) hC2 yC
    obtain ⟨bid, bo, _, b2, b3, _⟩ := arrI (pg := pg) (R := den pg) u2 yS
    obtain ⟨best', hbest⟩ : ∃ best', best' = (if gdB r c set = true then min best (pop 64 set) else best) := ⟨_, rfl⟩
    obtain ⟨e, H3, m, q1, q2, q3, q4⟩ := ih (set + 1) tp best' H2 (by omega) (by omega) (by omega) (by omega) hN2 hC2 u2 (by
        rw [hbest]
        by_cases hg : gdB r c set = true
        · rw [if_pos hg]
          rcases Nat.le_total best (pop 64 set) with hle | hle
          · rw [Nat.min_eq_left hle]; exact hex
          · rw [Nat.min_eq_right hle]; exact ⟨set, hset, hg, rfl⟩
        · rw [if_neg hg]; exact hex) (fun g g0 g1 g2 => by
        rcases Nat.lt_or_ge g set with hgs | hgs
        · have := hall g g0 hgs g2
          rw [hbest]; split
          · exact Nat.le_trans (Nat.min_le_left _ _) this
          · exact this
        · have : g = set := by omega
          subst this
          rw [hbest, if_pos g2]; exact Nat.min_le_right _ _)
    refine ⟨e, H3, m, Eq.trans ?_ q1, q2, q3, q4⟩
    have hcl := cov_lt h hxl
    have hnl := cov_lt h (show 2 ^ tp < 2 ^ (r * c) by omega)
    have hcvs := cov_lt h hset
    have orr := or_ii (m := cov r c less) (k := nv r c tp) (by omega) (by unfold nv; omega)
    rw [← hcs] at orr
    have sh2 := shl_2 (t := top) (by omega)
    have sht := Dn.shl_i (k := .i64) (c := tp) (by omega)
    have d0 : decide ((set : Int) < ((2 ^ (r * c) : Nat) : Int)) = true := dT (by omega)
    have wls : wrapR .i64 ((set : Int) - ((2 ^ tp : Nat) : Int)) = .i .i64 (less : Int) := by rw [show (set : Int) - ((2 ^ tp : Nat) : Int) = (less : Int) by omega]; exact wrapR_i64 (by omega)
    have wps : wrapR .i64 ((pop 64 less : Int) + 1) = .i .i64 (pop 64 set : Int) := by rw [show (pop 64 less : Int) + 1 = (pop 64 set : Int) by omega]; exact wrapR_i64 (by omega)
    have wst : wrapR .i64 ((set : Int) + 1) = .i .i64 ((set + 1 : Nat) : Int) := by rw [show (set : Int) + 1 = ((set + 1 : Nat) : Int) by omega]; exact wrapR_i64 (by omega)
    have wtp : wrapR .i64 ((top : Int) + 1) = .i .i64 ((top + 1 : Nat) : Int) := by rw [show (top : Int) + 1 = ((top + 1 : Nat) : Int) by omega]; exact wrapR_i64 (by omega)
    have wall : wrapR .i64 (((2 ^ (r * c) : Nat) : Int) - 1) = .i .i64 ((2 ^ (r * c) - 1 : Nat) : Int) := by rw [show ((2 ^ (r * c) : Nat) : Int) - 1 = ((2 ^ (r * c) - 1 : Nat) : Int) by omega]; exact wrapR_i64 (by omega)
    have he : ((((cov r c set : Nat) : Int) == ((2 ^ (r * c) - 1 : Nat) : Int)) : Bool) = gdB r c set := by
      unfold gdB
      by_cases h0 : cov r c set = 2 ^ (r * c) - 1
      · rw [dT h0, beqT (by rw [h0])]
      · rw [dF h0, beqF (by omega)]
    have hmn : ∀ K, dkc pg (den pg) .mnI [.i .i64 (best : Int), .i .i64 (pop 64 set : Int)] K = some (.i .i64 ((min best (pop 64 set) : Nat) : Int), K) := fun K => by
      rw [k_mn]
      split
      · rw [Nat.min_eq_right (by omega)]
      · rw [Nat.min_eq_left (by omega)]
    generalize ((2 ^ (r * c) - 1 : Nat) : Int) = AL at *
    generalize ((2 ^ (r * c) : Nat) : Int) = P2 at *
    generalize ((r * c : Nat) : Int) = M at *
    rw [hbest]
    have dge : decide ((set : Int) ≥ ((2 ^ (top + 1) : Nat) : Int)) = decide (2 ^ (top + 1) ≤ set) := by
      by_cases hge : 2 ^ (top + 1) ≤ set
      · rw [dT hge, dT (by omega)]
      · rw [dF hge, dF (by omega)]
    generalize ((2 ^ (top + 1) : Nat) : Int) = PT at *
    generalize ((set + 1 : Nat) : Int) = S1 at *
    rw [l56_3, den_loop]
    by_cases hge : 2 ^ (top + 1) ≤ set
    · rw [if_pos hge] at htp
      rw [dT hge] at dge
      rw [← htp] at wtp
      generalize ((2 ^ tp : Nat) : Int) = PP at *
      generalize (pop 64 less : Int) = PL at *
      generalize (cov r c less : Int) = CL at *
      generalize (nv r c tp : Int) = NT at *
      cases hg : gdB r c set with
      | true =>
        rw [hg] at he
        rw [if_pos rfl]
        generalize ((min best (pop 64 set) : Nat) : Int) = BM at *
        generalize (pop 64 set : Int) = PS at *
        generalize (cov r c set : Int) = CS at *
        simp (disch := omega) [l56_3, b56_2, go_nil, go_last, go_past, go_pastR, go_blkN, go_blkR, go_blkE, go_skip, go_exit, go_ret, go_scope, go_seq, go_reg, go_regd, go_opdN, go_opd, go_opdG, grdd_b, grdd_u, stpd_some, find_some, go_block, go_cond, cnd_b, go_opsN, go_ops, go_opsG, grd_b, grd_u, stp_some, fin_some, up_some, cont_some, k_call, k_mv, k_pick, k_bin, k_eqB, k_eqA, k_not, k_neg, k_conv, k_alloc, k_boxA, k_boxI, k_boxB, k_boxN, k_boxBs, k_ldR, k_ldA, k_ldI, k_ldB, k_stA, k_stI, k_stB, ldC_some, stC_some, k_mkfn, k_slc, k_slcA, k_ixA, k_ixBs, k_ixSl, k_fadr, k_fld, k_ext, k_len, k_app, k_mn, k_mx, k_nilck, k_build, k_bsl1, k_bsl2, b_add, b_sub, b_mul, b_eql, b_neq, b_lss, b_leq, b_gtr, b_geq, Dn.setLast, Dn.getLast, evalO, mapO, Dn.get, putE, keepE_nil, keepE_cons, kp_some, kp_none, TV.one, TV.isAgg, Dn.part, k_boxR, negb, at0, at1, at2, at3, at4, dT, dF, wrapR_i64, Option.bind_some, Option.map_some, sh, d0, sh2, dge, wtp, sht, wls, c2, c3, n2, n3, orr, c2', k_stI, s1, t2, t3, wps, t2', u1, a2, a3, wall, he, b2, b3, hmn, wst]
      | false =>
        rw [hg] at he
        generalize (pop 64 set : Int) = PS at *
        generalize (cov r c set : Int) = CS at *
        simp (disch := omega) [l56_3, b56_2, go_nil, go_last, go_past, go_pastR, go_blkN, go_blkR, go_blkE, go_skip, go_exit, go_ret, go_scope, go_seq, go_reg, go_regd, go_opdN, go_opd, go_opdG, grdd_b, grdd_u, stpd_some, find_some, go_block, go_cond, cnd_b, go_opsN, go_ops, go_opsG, grd_b, grd_u, stp_some, fin_some, up_some, cont_some, k_call, k_mv, k_pick, k_bin, k_eqB, k_eqA, k_not, k_neg, k_conv, k_alloc, k_boxA, k_boxI, k_boxB, k_boxN, k_boxBs, k_ldR, k_ldA, k_ldI, k_ldB, k_stA, k_stI, k_stB, ldC_some, stC_some, k_mkfn, k_slc, k_slcA, k_ixA, k_ixBs, k_ixSl, k_fadr, k_fld, k_ext, k_len, k_app, k_mn, k_mx, k_nilck, k_build, k_bsl1, k_bsl2, b_add, b_sub, b_mul, b_eql, b_neq, b_lss, b_leq, b_gtr, b_geq, Dn.setLast, Dn.getLast, evalO, mapO, Dn.get, putE, keepE_nil, keepE_cons, kp_some, kp_none, TV.one, TV.isAgg, Dn.part, k_boxR, negb, at0, at1, at2, at3, at4, dT, dF, wrapR_i64, Option.bind_some, Option.map_some, sh, d0, sh2, dge, wtp, sht, wls, c2, c3, n2, n3, orr, c2', k_stI, s1, t2, t3, wps, t2', u1, a2, a3, wall, he, wst]
    · rw [if_neg hge] at htp
      rw [dF hge] at dge
      subst htp
      generalize ((2 ^ tp : Nat) : Int) = PP at *
      generalize (pop 64 less : Int) = PL at *
      generalize (cov r c less : Int) = CL at *
      generalize (nv r c tp : Int) = NT at *
      cases hg : gdB r c set with
      | true =>
        rw [hg] at he
        rw [if_pos rfl]
        generalize ((min best (pop 64 set) : Nat) : Int) = BM at *
        generalize (pop 64 set : Int) = PS at *
        generalize (cov r c set : Int) = CS at *
        simp (disch := omega) [l56_3, b56_2, go_nil, go_last, go_past, go_pastR, go_blkN, go_blkR, go_blkE, go_skip, go_exit, go_ret, go_scope, go_seq, go_reg, go_regd, go_opdN, go_opd, go_opdG, grdd_b, grdd_u, stpd_some, find_some, go_block, go_cond, cnd_b, go_opsN, go_ops, go_opsG, grd_b, grd_u, stp_some, fin_some, up_some, cont_some, k_call, k_mv, k_pick, k_bin, k_eqB, k_eqA, k_not, k_neg, k_conv, k_alloc, k_boxA, k_boxI, k_boxB, k_boxN, k_boxBs, k_ldR, k_ldA, k_ldI, k_ldB, k_stA, k_stI, k_stB, ldC_some, stC_some, k_mkfn, k_slc, k_slcA, k_ixA, k_ixBs, k_ixSl, k_fadr, k_fld, k_ext, k_len, k_app, k_mn, k_mx, k_nilck, k_build, k_bsl1, k_bsl2, b_add, b_sub, b_mul, b_eql, b_neq, b_lss, b_leq, b_gtr, b_geq, Dn.setLast, Dn.getLast, evalO, mapO, Dn.get, putE, keepE_nil, keepE_cons, kp_some, kp_none, TV.one, TV.isAgg, Dn.part, k_boxR, negb, at0, at1, at2, at3, at4, dT, dF, wrapR_i64, Option.bind_some, Option.map_some, sh, d0, sh2, dge, sht, wls, c2, c3, n2, n3, orr, c2', k_stI, s1, t2, t3, wps, t2', u1, a2, a3, wall, he, b2, b3, hmn, wst]
      | false =>
        rw [hg] at he
        generalize (pop 64 set : Int) = PS at *
        generalize (cov r c set : Int) = CS at *
        simp (disch := omega) [l56_3, b56_2, go_nil, go_last, go_past, go_pastR, go_blkN, go_blkR, go_blkE, go_skip, go_exit, go_ret, go_scope, go_seq, go_reg, go_regd, go_opdN, go_opd, go_opdG, grdd_b, grdd_u, stpd_some, find_some, go_block, go_cond, cnd_b, go_opsN, go_ops, go_opsG, grd_b, grd_u, stp_some, fin_some, up_some, cont_some, k_call, k_mv, k_pick, k_bin, k_eqB, k_eqA, k_not, k_neg, k_conv, k_alloc, k_boxA, k_boxI, k_boxB, k_boxN, k_boxBs, k_ldR, k_ldA, k_ldI, k_ldB, k_stA, k_stI, k_stB, ldC_some, stC_some, k_mkfn, k_slc, k_slcA, k_ixA, k_ixBs, k_ixSl, k_fadr, k_fld, k_ext, k_len, k_app, k_mn, k_mx, k_nilck, k_build, k_bsl1, k_bsl2, b_add, b_sub, b_mul, b_eql, b_neq, b_lss, b_leq, b_gtr, b_geq, Dn.setLast, Dn.getLast, evalO, mapO, Dn.get, putE, keepE_nil, keepE_cons, kp_some, kp_none, TV.one, TV.isAgg, Dn.part, k_boxR, negb, at0, at1, at2, at3, at4, dT, dF, wrapR_i64, Option.bind_some, Option.map_some, sh, d0, sh2, dge, sht, wls, c2, c3, n2, n3, orr, c2', k_stI, s1, t2, t3, wps, t2', u1, a2, a3, wall, he, wst]

theorem fn56 {pg : Pg} (hF : Free pg) {r c : Nat} (h : Brd r c) (h16 : r * c ≤ 16) : ∃ m : Nat, Least r c m ∧ PFn pg 56 [.i .i64 (r : Int), .i .i64 (c : Int)] (.i .i64 (m : Int)) := by
  have hn := h.n36
  have h63 := lt63 h
  have h16' : 2 ^ (r * c) ≤ 65536 := Nat.pow_le_pow_right (n := 2) (by decide) h16
  have hp2 := Nat.two_pow_pos (r * c)
  obtain ⟨hcast, wn⟩ := rc_facts h
  have h1n : 1 ≤ r * c := by
    rcases Nat.eq_zero_or_pos (r * c) with g | g
    · exfalso
      have := h.ok (P := fun r c => decide (1 ≤ r * c)) (by kernel_rfl)
      have := of_decide_eq_true this
      omega
    · exact g
  have sh := Dn.shl_i (k := .i64) (c := r * c) (by omega)
  have mk1 := k_mksl (pg := pg) (R := den pg) [.i .i64 0] false 8 .i64 .i64 (r * c) [] (by omega) (by omega)
  obtain ⟨H1, hH1⟩ : ∃ H1 : Heap, H1 = [] ++ [AObj.cells (repl [TV.i .i64 0] (r * c)) false] := ⟨_, rfl⟩
  have hN0 : elI.Arr H1 (.sl 0 0 1 false (r * c) (some (r * c))) (wl (upto (nv r c) 0) (r * c)) := by
    rw [upto_zero, hH1]
    exact El.arr_mksl elI [] 0 (r * c)
  have l1 : H1.length = 1 := by rw [hH1]; rfl
  rw [← hH1] at mk1
  simp only [List.length_nil, List.length_singleton] at mk1
  obtain ⟨N, hN⟩ : ∃ N, N = TV.sl 0 0 1 false (r * c) (some (r * c)) := ⟨_, rfl⟩
  rw [← hN] at mk1 hN0
  obtain ⟨e, H2, q1, q2, q3, q4, q5⟩ := l56_1_all (pg := pg) hF h (r * c) 0 H1 (by omega) hN0
  simp only [Int.natCast_zero] at q1
  have l2 : H2.length = 1 := by omega
  -- the rows by set
  have mk2 := fun K => k_mksl (pg := pg) (R := den pg) [.i .i64 0] false 8 .i64 .i64 (2 ^ (r * c)) K (by omega) (by omega)
  have m2 := mk2 H2
  obtain ⟨H3, hH3⟩ : ∃ H3 : Heap, H3 = H2 ++ [AObj.cells (repl [TV.i .i64 0] (2 ^ (r * c))) false] := ⟨_, rfl⟩
  have l3 : H3.length = 2 := by rw [hH3]; simp [l2]
  have hC3 : elI.Arr H3 (.sl 1 0 1 false (2 ^ (r * c)) (some (2 ^ (r * c)))) (wl (upto (cov r c) 1) (2 ^ (r * c))) := by
    have e0 : wl (upto (cov r c) 1) (2 ^ (r * c)) = List.replicate (2 ^ (r * c)) 0 := by
      rw [← upto_zero (cov r c)]
      have : upto (cov r c) 1 = upto (cov r c) 0 := by
        funext t
        unfold upto
        by_cases ht : t < 1
        · have : t = 0 := by omega
          subst this
          have h0 : cov r c 0 = 0 := by
            refine Nat.eq_of_testBit_eq fun i => ?_
            rw [Nat.zero_testBit]
            by_cases hi : i < r * c
            · cases hb : (cov r c 0).testBit i with
              | false => rfl
              | true =>
                rcases (cov_bit h hp2 hi).1 hb with g | ⟨s, g, _⟩ <;> (rw [Nat.zero_testBit] at g; cases g)
            · exact Nat.testBit_lt_two_pow (Nat.lt_of_lt_of_le (cov_lt h hp2) (Nat.pow_le_pow_right (by decide) (by omega)))
          simp [h0]
        · rw [if_neg ht, if_neg (by omega)]
      rw [this]
    have ha := El.arr_mksl elI H2 0 (2 ^ (r * c))
    rw [l2] at ha
    rw [e0, hH3]
    exact ha
  rw [← hH3, l2] at m2
  have m3 := mk2 H3
  obtain ⟨H4, hH4⟩ : ∃ H4 : Heap, H4 = H3 ++ [AObj.cells (repl [TV.i .i64 0] (2 ^ (r * c))) false] := ⟨_, rfl⟩
  have hS4 : elI.Arr H4 (.sl 2 0 1 false (2 ^ (r * c)) (some (2 ^ (r * c)))) (wl (upto (pop 64) 1) (2 ^ (r * c))) := by
    have e0 : wl (upto (pop 64) 1) (2 ^ (r * c)) = List.replicate (2 ^ (r * c)) 0 := by
      rw [← upto_zero (pop 64)]
      have : upto (pop 64) 1 = upto (pop 64) 0 := by
        funext t
        unfold upto
        by_cases ht : t < 1
        · have : t = 0 := by omega
          subst this
          simp [pop_zero]
        · rw [if_neg ht, if_neg (by omega)]
      rw [this]
    have ha := El.arr_mksl elI H3 0 (2 ^ (r * c))
    rw [l3] at ha
    rw [e0, hH4]
    exact ha
  rw [← hH4, l3] at m3
  simp only [List.length_singleton] at m2 m3
  obtain ⟨C, hC⟩ : ∃ C, C = TV.sl 1 0 1 false (2 ^ (r * c)) (some (2 ^ (r * c))) := ⟨_, rfl⟩
  obtain ⟨S, hS⟩ : ∃ S, S = TV.sl 2 0 1 false (2 ^ (r * c)) (some (2 ^ (r * c))) := ⟨_, rfl⟩
  rw [← hC] at m2 hC3
  rw [← hS] at m3 hS4
  have iN : N.idOf = some 0 := by rw [hN]; rfl
  have iC : C.idOf = some 1 := by rw [hC]; rfl
  have iS : S.idOf = some 2 := by rw [hS]; rfl
  have hN4 : elI.Arr H4 N (wl (nv r c) (r * c)) := q4.mono fun j hj => by
    rw [iN] at hj; injection hj with hj; subst hj
    rw [hH4, List.getElem?_append_left (by omega), hH3, List.getElem?_append_left (by omega)]
  have hC4 : elI.Arr H4 C (wl (upto (cov r c) 1) (2 ^ (r * c))) := hC3.mono fun j hj => by
    rw [iC] at hj; injection hj with hj; subst hj
    rw [hH4, List.getElem?_append_left (by omega)]
  obtain ⟨e', H5, m, r1, r2, r3, r4⟩ := l56_3_all (pg := pg) hF h h16 (N := N) (C := C) (S := S) (fun j hj => by rw [iC] at hj; rw [iN]; injection hj with hj; subst hj; simp) (fun j hj => by rw [iS] at hj; rw [iN]; injection hj with hj; subst hj; simp)
    (fun j hj => by rw [iC] at hj; rw [iS]; injection hj with hj; subst hj; simp) (2 ^ (r * c) - 1) 1 0 (r * c) H4 (by omega) (by omega) (by simp) (by simp) hN4 hC4 hS4 ⟨2 ^ (r * c) - 1, by omega, gd_all h, pop_full _ _ (by omega)⟩ (fun g g0 g1 => by omega)
  simp only [Int.natCast_zero, Int.natCast_one] at r1
  refine ⟨m, ⟨r3, fun g g1 g2 => ?_⟩, ?_⟩
  · rcases Nat.eq_zero_or_pos g with g0 | g0
    · exfalso
      subst g0
      have h0 := of_decide_eq_true g2
      have hb := (cov_bit (x := 0) (t := 0) h hp2 (by omega)).1 (by rw [h0, Nat.testBit_two_pow_sub_one]; simp; omega)
      rcases hb with g | ⟨s, g, _⟩ <;> (rw [Nat.zero_testBit] at g; cases g)
    · exact r4 g g0 g1 g2
  · refine .inr ⟨hF.S _ _ (by decide), .i .i64 (m : Int), H5, body_of (x := .ret) (e := [(4, .i .i64 (m : Int))]) (d := d56) (by rw [hF.F]; rfl) rfl ?_ (.inl rfl) rfl, sn_i _ _ _ _⟩
    have wn' : wrapR .i64 ((r : Int) * (c : Int)) = .i .i64 ((r * c : Nat) : Int) := by rw [wn, hcast]
    clear wn hcast
    generalize ((2 ^ (r * c) : Nat) : Int) = P2 at *
    generalize ((r * c : Nat) : Int) = M at *
    simp (disch := omega) [d56, c56, zipE, go_nil, go_last, go_past, go_pastR, go_blkN, go_blkR, go_blkE, go_skip, go_exit, go_ret, go_scope, go_seq, go_reg, go_regd, go_opdN, go_opd, go_opdG, grdd_b, grdd_u, stpd_some, find_some, go_block, go_cond, cnd_b, go_opsN, go_ops, go_opsG, grd_b, grd_u, stp_some, fin_some, up_some, cont_some, k_call, k_mv, k_pick, k_bin, k_eqB, k_eqA, k_not, k_neg, k_conv, k_alloc, k_boxA, k_boxI, k_boxB, k_boxN, k_boxBs, k_ldR, k_ldA, k_ldI, k_ldB, k_stA, k_stI, k_stB, ldC_some, stC_some, k_mkfn, k_slc, k_slcA, k_ixA, k_ixBs, k_ixSl, k_fadr, k_fld, k_ext, k_len, k_app, k_mn, k_mx, k_nilck, k_build, k_bsl1, k_bsl2, b_add, b_sub, b_mul, b_eql, b_neq, b_lss, b_leq, b_gtr, b_geq, Dn.setLast, Dn.getLast, evalO, mapO, Dn.get, putE, keepE_nil, keepE_cons, kp_some, kp_none, TV.one, TV.isAgg, Dn.part, k_boxR, negb, at0, at1, at2, at3, at4, dT, dF, wrapR_i64, Option.bind_some, Option.map_some, wn', mk1, go_denK (c := l56_1) rfl, go_denK (c := l56_3) rfl, q1, q2, q3, sh, m2, m3, r1, r2]

end Go.Proofs.Tryd.Dn

/-
  Knight: the law of guards, run.
-/

namespace Go.Proofs.Tryd.Dn
open Go.Dn


theorem run15 {pg : Pg} (hF : Free pg) (h25 : PFn pg 25 [] (.b true)) (x y : Int) : ∃ H, bodyRun pg (den pg) 15 [.i .i64 x, .i .i64 y] [] = some (.b true, H) := by
  obtain ⟨r, c, h, c18⟩ := call18 hF x y
  have hn := h.n36
  have h63 := lt63 h
  obtain ⟨hcast, wn⟩ := rc_facts h
  have wn' : wrapR .i64 ((r : Int) * (c : Int)) = .i .i64 ((r * c : Nat) : Int) := by rw [wn, hcast]
  clear wn hcast
  have c25 := fun H => PFn.call h25 (args := []) (ks := []) (fs := []) (cs := []) (H := H) (by simp [snapArgs])
  have sh := Dn.shl_i (k := .i64) (c := r * c) (by omega)
  refine ⟨[], body_of (x := .ret) (e := [(4, .b true)]) (d := d15) (by rw [hF.F]; rfl) rfl ?_ (.inl rfl) rfl⟩
  by_cases hb : 20 < r * c
  · have c54 := fun H => PFn.at (fn54_big hF h hb) (fun H => sa_I (sa_I sa_0)) H
    have dg : decide (((r * c : Nat) : Int) > 20) = true := dT (by omega)
    generalize ((r * c : Nat) : Int) = N at *
    simp (disch := omega) [d15, c15, zipE, go_nil, go_last, go_past, go_pastR, go_blkN, go_blkR, go_blkE, go_skip, go_exit, go_ret, go_scope, go_seq, go_reg, go_regd, go_opdN, go_opd, go_opdG, grdd_b, grdd_u, stpd_some, find_some, go_block, go_cond, cnd_b, go_opsN, go_ops, go_opsG, grd_b, grd_u, stp_some, fin_some, up_some, cont_some, k_call, k_mv, k_pick, k_bin, k_eqB, k_eqA, k_not, k_neg, k_conv, k_alloc, k_boxA, k_boxI, k_boxB, k_boxN, k_boxBs, k_ldR, k_ldA, k_ldI, k_ldB, k_stA, k_stI, k_stB, ldC_some, stC_some, k_mkfn, k_slc, k_slcA, k_ixA, k_ixBs, k_ixSl, k_fadr, k_fld, k_ext, k_len, k_app, k_mn, k_mx, k_nilck, k_build, k_bsl1, k_bsl2, b_add, b_sub, b_mul, b_eql, b_neq, b_lss, b_leq, b_gtr, b_geq, Dn.setLast, Dn.getLast, evalO, mapO, Dn.get, putE, keepE_nil, keepE_cons, kp_some, kp_none, TV.one, TV.isAgg, Dn.part, k_boxR, negb, at0, at1, at2, at3, at4, dT, dF, wrapR_i64, Option.bind_some, Option.map_some, c18, wn', c54, dg, c25]
  · obtain ⟨s, s1, s2, s3, f54⟩ := fn54 (pg := pg) hF h (by omega)
    have c54 := fun H => PFn.at f54 (fun H => sa_I (sa_I sa_0)) H
    have c55 := fun H => PFn.at (fn55 hF h s1) (fun H => sa_I (sa_I (sa_I sa_0))) H
    rw [s2] at c55
    have c48 := fun H => call48 (pg := pg) hF (x := s) (by omega) H
    have dg : decide (((r * c : Nat) : Int) > 20) = false := dF (by omega)
    have v0 : decide ((s : Int) < 0) = false := dF (by omega)
    have vl : decide ((s : Int) ≥ ((2 ^ (r * c) : Nat) : Int)) = false := dF (by omega)
    by_cases h16 : 16 < r * c
    · have d16 : decide (((r * c : Nat) : Int) > 16) = true := dT (by omega)
      generalize ((2 ^ (r * c) : Nat) : Int) = P2 at *
      generalize ((r * c : Nat) : Int) = N at *
      generalize (pop 64 s : Int) = PS at *
      simp (disch := omega) [d15, c15, zipE, go_nil, go_last, go_past, go_pastR, go_blkN, go_blkR, go_blkE, go_skip, go_exit, go_ret, go_scope, go_seq, go_reg, go_regd, go_opdN, go_opd, go_opdG, grdd_b, grdd_u, stpd_some, find_some, go_block, go_cond, cnd_b, go_opsN, go_ops, go_opsG, grd_b, grd_u, stp_some, fin_some, up_some, cont_some, k_call, k_mv, k_pick, k_bin, k_eqB, k_eqA, k_not, k_neg, k_conv, k_alloc, k_boxA, k_boxI, k_boxB, k_boxN, k_boxBs, k_ldR, k_ldA, k_ldI, k_ldB, k_stA, k_stI, k_stB, ldC_some, stC_some, k_mkfn, k_slc, k_slcA, k_ixA, k_ixBs, k_ixSl, k_fadr, k_fld, k_ext, k_len, k_app, k_mn, k_mx, k_nilck, k_build, k_bsl1, k_bsl2, b_add, b_sub, b_mul, b_eql, b_neq, b_lss, b_leq, b_gtr, b_geq, Dn.setLast, Dn.getLast, evalO, mapO, Dn.get, putE, keepE_nil, keepE_cons, kp_some, kp_none, TV.one, TV.isAgg, Dn.part, k_boxR, negb, at0, at1, at2, at3, at4, dT, dF, wrapR_i64, Option.bind_some, Option.map_some, c18, wn', c54, dg, v0, sh, vl, c55, c48, d16, c25]
    · obtain ⟨m, m1, f56⟩ := fn56 (pg := pg) hF h (by omega)
      have hm := m1.uniq s3
      rw [hm] at f56
      have c56 := fun H => PFn.at f56 (fun H => sa_I (sa_I sa_0)) H
      have d16 : decide (((r * c : Nat) : Int) > 16) = false := dF (by omega)
      generalize ((2 ^ (r * c) : Nat) : Int) = P2 at *
      generalize ((r * c : Nat) : Int) = N at *
      generalize (pop 64 s : Int) = PS at *
      simp (disch := omega) [d15, c15, zipE, go_nil, go_last, go_past, go_pastR, go_blkN, go_blkR, go_blkE, go_skip, go_exit, go_ret, go_scope, go_seq, go_reg, go_regd, go_opdN, go_opd, go_opdG, grdd_b, grdd_u, stpd_some, find_some, go_block, go_cond, cnd_b, go_opsN, go_ops, go_opsG, grd_b, grd_u, stp_some, fin_some, up_some, cont_some, k_call, k_mv, k_pick, k_bin, k_eqB, k_eqA, k_not, k_neg, k_conv, k_alloc, k_boxA, k_boxI, k_boxB, k_boxN, k_boxBs, k_ldR, k_ldA, k_ldI, k_ldB, k_stA, k_stI, k_stB, ldC_some, stC_some, k_mkfn, k_slc, k_slcA, k_ixA, k_ixBs, k_ixSl, k_fadr, k_fld, k_ext, k_len, k_app, k_mn, k_mx, k_nilck, k_build, k_bsl1, k_bsl2, b_add, b_sub, b_mul, b_eql, b_neq, b_lss, b_leq, b_gtr, b_geq, Dn.setLast, Dn.getLast, evalO, mapO, Dn.get, putE, keepE_nil, keepE_cons, kp_some, kp_none, TV.one, TV.isAgg, Dn.part, k_boxR, negb, at0, at1, at2, at3, at4, dT, dF, wrapR_i64, Option.bind_some, Option.map_some, c18, wn', c54, dg, v0, sh, vl, c55, c48, d16, c56, c25]

end Go.Proofs.Tryd.Dn

