/-
  Knight: guards: the plain law.
-/
import Derived.Test.YtdjbpmgbaggfbaaDoorKfg
import Derived.Test.YtdjbpmgbaggfbaaDoorKfr
import Derived.Test.YtdjbpmgbaggfbaaDoorDd
set_option linter.unusedSimpArgs false
set_option linter.unusedVariables false

namespace Go.Proofs.Tryd.Dn
open Go.Dn

def cov (r c x : Nat) : Nat := x ||| around r c x
def gdB (r c x : Nat) : Bool := decide (cov r c x = 2 ^ (r * c) - 1)

theorem cov_lt {r c x : Nat} (h : Brd r c) (hx : x < 2 ^ (r * c)) : cov r c x < 2 ^ (r * c) := or_lt hx (around_lt h hx)

theorem cov_bit {r c x t : Nat} (h : Brd r c) (hx : x < 2 ^ (r * c)) (ht : t < r * c) : (cov r c x).testBit t = true ↔ x.testBit t = true ∨ ∃ s, x.testBit s = true ∧ s < r * c ∧ near c s t = true := by
  unfold cov
  rw [Nat.testBit_or, Bool.or_eq_true, around_bit h hx ht]

def Sub (x g : Nat) : Prop := ∀ i, x.testBit i = true → g.testBit i = true

theorem pop_sub {x g : Nat} (h : Sub x g) : pop 64 x ≤ pop 64 g := by
  rw [pop_count, pop_count]
  exact List.countP_mono_left fun i _ hi => h i hi

theorem pop_add1 {x t : Nat} (hx : x < 18446744073709551616) (ht : t < 64) (hn : x.testBit t = false) : pop 64 x + 1 ≤ pop 64 (x ||| 2 ^ t) := by
  have hl : x ||| 2 ^ t < 2 ^ 64 := or_lt (by omega) (Nat.pow_lt_pow_right (by decide) ht)
  have := left_less (left := x ||| 2 ^ t) (s := t) (by omega) ht (by rw [Nat.testBit_or, Nat.testBit_two_pow_self]; simp)
  rw [show andN (x ||| 2 ^ t) (2 ^ t) = x from Nat.eq_of_testBit_eq fun i => by
    rw [andN_two (by omega) ht, Nat.testBit_or, Nat.testBit_two_pow]
    by_cases e : i = t
    · subst e; simp [hn]
    · have : ¬ t = i := fun q => e q.symm
      simp [e, this], mem64_len, mem64_len] at this
  exact this

theorem sub_or {x g t : Nat} (h : Sub x g) (ht : g.testBit t = true) : Sub (x ||| 2 ^ t) g := fun i hi => by
  rw [Nat.testBit_or, Bool.or_eq_true, Nat.testBit_two_pow] at hi
  rcases hi with hi | hi
  · exact h i hi
  · have : t = i := of_decide_eq_true hi
    rw [← this]; exact ht

theorem pop_le_n {x n : Nat} (hn : n ≤ 64) (hx : x < 2 ^ n) : pop 64 x ≤ n := by
  have := pop_add n (64 - n) x
  rw [show n + (64 - n) = 64 by omega, Nat.div_eq_of_lt hx, pop_zero] at this
  have := pop_le n x
  omega

theorem guard_of {r c x g s : Nat} (h : Brd r c) (hx : x < 2 ^ (r * c)) (hg : g < 2 ^ (r * c)) (hs : s < r * c) (hgd : gdB r c g = true) (hsub : Sub x g) (ho : (cov r c x).testBit s = false) :
    ∃ t, t ∈ s :: mem64 (mv r c s) ∧ t < r * c ∧ x.testBit t = false ∧ g.testBit t = true := by
  have hc : (cov r c g).testBit s = true := by
    rw [of_decide_eq_true hgd, Nat.testBit_two_pow_sub_one]
    simpa using hs
  have hno : ¬ (x.testBit s = true ∨ ∃ t, x.testBit t = true ∧ t < r * c ∧ near c t s = true) := fun q => by
    rw [(cov_bit h hx hs).2 q] at ho; cases ho
  rcases (cov_bit h hg hs).1 hc with h1 | ⟨t, h1, h2, h3⟩
  · refine ⟨s, List.mem_cons_self .., hs, ?_, h1⟩
    cases hh : x.testBit s with
    | false => rfl
    | true => exact absurd (.inl hh) hno
  · refine ⟨t, List.mem_cons_of_mem _ ?_, h2, ?_, h1⟩
    · have h64 := lv64 h
      rw [mem_mem64 (Nat.lt_of_lt_of_le (mv_bound h hs) h64)]
      rw [mv_near h hs h2, near_comm]; exact h3
    · cases hh : x.testBit t with
      | false => rfl
      | true => exact absurd (.inr ⟨t, hh, h2, h3⟩) hno

structure Better (r c best best' set : Nat) : Prop where
  lt : best' < 2 ^ (r * c)
  gd : gdB r c best' = true
  le : pop 64 best' ≤ pop 64 best
  all : ∀ g, g < 2 ^ (r * c) → gdB r c g = true → Sub set g → pop 64 best' ≤ pop 64 g

theorem gd_all {r c : Nat} (h : Brd r c) : gdB r c (2 ^ (r * c) - 1) = true := by
  have hp := Nat.two_pow_pos (r * c)
  have hl : 2 ^ (r * c) - 1 < 2 ^ (r * c) := by omega
  refine decide_eq_true (Nat.eq_of_testBit_eq fun i => ?_)
  by_cases hi : i < r * c
  · rw [Nat.testBit_two_pow_sub_one, decide_eq_true hi, cov_bit h hl hi, Nat.testBit_two_pow_sub_one, decide_eq_true hi]
    exact .inl rfl
  · have h1 : (cov r c (2 ^ (r * c) - 1)).testBit i = false := Nat.testBit_lt_two_pow (Nat.lt_of_lt_of_le (cov_lt h hl) (Nat.pow_le_pow_right (by decide) (by omega)))
    rw [h1, Nat.testBit_two_pow_sub_one, decide_eq_false hi]

def openS (r c x : Nat) : Nat := andN (2 ^ (r * c) - 1) (cov r c x)

theorem open_bit {r c x i : Nat} (h : Brd r c) : (openS r c x).testBit i = (decide (i < r * c) && !(cov r c x).testBit i) := by
  unfold openS
  have h64 := lv64 h
  rw [andN_bit (by omega), Nat.testBit_two_pow_sub_one]

theorem open_zero {r c x : Nat} (h : Brd r c) (hx : x < 2 ^ (r * c)) (h0 : openS r c x = 0) : gdB r c x = true := by
  refine decide_eq_true (Nat.eq_of_testBit_eq fun i => ?_)
  have hb := open_bit (x := x) (i := i) h
  rw [h0, Nat.zero_testBit] at hb
  rw [Nat.testBit_two_pow_sub_one]
  by_cases hi : i < r * c
  · rw [decide_eq_true hi] at hb ⊢
    simpa using hb.symm
  · rw [decide_eq_false hi]
    exact Nat.testBit_lt_two_pow (Nat.lt_of_lt_of_le (cov_lt h hx) (Nat.pow_le_pow_right (by decide) (by omega)))

theorem open_first {r c x : Nat} (h : Brd r c) (h0 : openS r c x ≠ 0) : ctz 64 (openS r c x) < r * c ∧ (cov r c x).testBit (ctz 64 (openS r c x)) = false := by
  have h64 := lv64 h
  have hlt : openS r c x < 18446744073709551616 := by
    have := andN_le (2 ^ (r * c) - 1) (cov r c x) (by omega)
    unfold openS; omega
  have hm := (mem64_step (x := openS r c x) (by omega) hlt).1
  have hb : (openS r c x).testBit (ctz 64 (openS r c x)) = true := (mem_mem64 hlt).1 (by rw [hm]; exact List.mem_cons_self ..)
  rw [open_bit h] at hb
  simp only [Bool.and_eq_true, decide_eq_true_eq, Bool.not_eq_true'] at hb
  exact hb

theorem more_pop {r c x : Nat} (h : Brd r c) (hx : x < 2 ^ (r * c)) (h0 : openS r c x ≠ 0) : pop 64 x + 1 ≤ r * c := by
  have h64 := lv64 h
  have hn := h.n36
  obtain ⟨h1, h2⟩ := open_first h h0
  have hxs : x.testBit (ctz 64 (openS r c x)) = false := by
    cases hh : x.testBit (ctz 64 (openS r c x)) with
    | false => rfl
    | true => rw [(cov_bit h hx h1).2 (.inl hh)] at h2; cases h2
  have := pop_add1 (by omega) (by omega) hxs
  have h3 : x ||| 2 ^ ctz 64 (openS r c x) < 2 ^ (r * c) := or_lt hx (Nat.pow_lt_pow_right (by decide) h1)
  have := pop_le_n (by omega) h3
  omega

theorem cut_better {r c x best : Nat} (h : Brd r c) (hx : x < 2 ^ (r * c)) (h0 : openS r c x ≠ 0) (hb : best < 2 ^ (r * c)) (hgd : gdB r c best = true) (hp : pop 64 best ≤ pop 64 x + 1) : Better r c best best x := by
  refine ⟨hb, hgd, Nat.le_refl _, fun g hg hgg hs => ?_⟩
  have h64 := lv64 h
  have hn := h.n36
  obtain ⟨h1, h2⟩ := open_first h h0
  obtain ⟨t, _, t2, t3, t4⟩ := guard_of h hx hg h1 hgg hs h2
  have := pop_add1 (x := x) (t := t) (by omega) (by omega) t3
  have := pop_sub (sub_or hs t4)
  omega

theorem end_better {r c x best : Nat} (h : Brd r c) (hx : x < 2 ^ (r * c)) (h0 : openS r c x = 0) (hb : best < 2 ^ (r * c)) (hgd : gdB r c best = true) : Better r c best (if pop 64 x < pop 64 best then x else best) x := by
  split
  · rename_i hlt
    exact ⟨hx, open_zero h hx h0, Nat.le_of_lt hlt, fun g _ _ hs => pop_sub hs⟩
  · rename_i hlt
    exact ⟨hb, hgd, Nat.le_refl _, fun g _ _ hs => by have := pop_sub hs; omega⟩

structure Least (r c m : Nat) : Prop where
  some : ∃ g, g < 2 ^ (r * c) ∧ gdB r c g = true ∧ pop 64 g = m
  all : ∀ g, g < 2 ^ (r * c) → gdB r c g = true → m ≤ pop 64 g

theorem Least.uniq {r c m k : Nat} (h : Least r c m) (h' : Least r c k) : m = k := by
  obtain ⟨g, g1, g2, g3⟩ := h.some
  obtain ⟨g', g1', g2', g3'⟩ := h'.some
  have := h.all g' g1' g2'
  have := h'.all g g1 g2
  omega

end Go.Proofs.Tryd.Dn

/-
  Knight: slices laid one behind the other.
-/

namespace Go.Proofs.Tryd.Dn
open Go.Dn

theorem k_appz1 {pg : Pg} {R : Rec} {m : Nat} (h0 : 0 < m) (h1 : m ≤ 1000000) (H : Heap) : dkc pg R (.appz [.i .i64 0] false 8) [.nilsl, .i .i64 (m : Int)] H = some (.sl H.length 0 1 false m none, H ++ [.cells (repl [.i .i64 0] m) false]) := by
  have : (0 : Int) < (m : Int) ∧ (m : Int) * 8 ≤ 140737488355328 := by omega
  simp [dkc, dk, TV.one]
  omega

theorem body97 {pg : Pg} (hF : Free pg) {m : Nat} (h0 : 0 < m) (h1 : m ≤ 1000000) (H : Heap) :
    bodyRun pg (den pg) 97 [.nilsl, .i .i64 (m : Int)] H = some (.sl H.length 0 1 false 0 none, H ++ [.cells (repl [.i .i64 0] m) false]) := by
  obtain ⟨L, hL⟩ : ∃ L, L = H.length := ⟨_, rfl⟩
  obtain ⟨H1, hH1⟩ : ∃ H1, H1 = H ++ [AObj.cells (repl [.i .i64 0] m) false] := ⟨_, rfl⟩
  have az := k_appz1 (pg := pg) (R := den pg) h0 h1 H
  rw [← hL, ← hH1] at az
  have s1 : ∀ K : Heap, dkc pg (den pg) (.slc false true false 1 false) [.nilsl, .i .i64 0] K = some (.nilsl, K) := fun K => rfl
  have s2 : ∀ K : Heap, dkc pg (den pg) (.slc false true false 1 false) [.sl L 0 1 false m none, .i .i64 0] K = some (.sl L 0 1 false 0 none, K) := fun K => by simp [dkc, dk, slcRun, bounds3, bound]
  have c0 : ∀ K : Heap, dkc pg (den pg) .cap [.nilsl] K = some (.i .i64 0, K) := fun K => rfl
  have n0 : ∀ K : Heap, lenK 0 .nilsl K = some 0 := fun K => rfl
  have d0 : decide ((m : Int) < 0) = false := dF (by omega)
  have d1 : decide ((m : Int) > 0) = true := dT (by omega)
  have w0 : wrapR .i64 ((m : Int) - 0) = .i .i64 (m : Int) := by rw [Int.sub_zero]; exact wrapR_i64 (by omega)
  have w1 : wrapR .i64 ((0 : Int) - 0) = .i .i64 0 := wrapR_i64 (by decide)
  rw [← hL, ← hH1]
  refine body_of (x := .ret) (e := [(4, .sl L 0 1 false 0 none)]) (d := d97) (by rw [hF.F]; rfl) rfl ?_ (.inl rfl) rfl
  simp (disch := omega) [d97, c97, zipE, go_nil, go_last, go_past, go_pastR, go_blkN, go_blkR, go_blkE, go_skip, go_exit, go_ret, go_scope, go_seq, go_reg, go_regd, go_opdN, go_opd, go_opdG, grdd_b, grdd_u, stpd_some, find_some, go_block, go_cond, cnd_b, go_opsN, go_ops, go_opsG, grd_b, grd_u, stp_some, fin_some, up_some, cont_some, k_call, k_mv, k_pick, k_bin, k_eqB, k_eqA, k_not, k_neg, k_conv, k_alloc, k_boxA, k_boxI, k_boxB, k_boxN, k_boxBs, k_ldR, k_ldA, k_ldI, k_ldB, k_stA, k_stI, k_stB, ldC_some, stC_some, k_mkfn, k_slc, k_slcA, k_ixA, k_ixBs, k_ixSl, k_fadr, k_fld, k_ext, k_len, k_app, k_mn, k_mx, k_nilck, k_build, k_bsl1, k_bsl2, b_add, b_sub, b_mul, b_eql, b_neq, b_lss, b_leq, b_gtr, b_geq, Dn.setLast, Dn.getLast, evalO, mapO, Dn.get, putE, keepE_nil, keepE_cons, kp_some, kp_none, TV.one, TV.isAgg, Dn.part, k_boxR, negb, at0, at1, at2, at3, at4, dT, dF, wrapR_i64, Option.bind_some, Option.map_some, az, s1, s2, c0, n0, d0, d1, w0, w1]

theorem l85_1_step {pg : Pg} {b : Bool} {es : List TV} {Z : TV} {z : List Int} {k s : Nat} (hk : es[k]? = some Z) (hZ : SV Z z) (hl : es.length ≤ 1000) (hs : s + z.length ≤ 1000000) (H : Heap) :
    den pg l85_1 [(0, .bs b 1 es), (3, .i .i64 (s : Int)), (9, .bs b 1 es), (10, .i .i64 (es.length : Int)), (11, .i .i64 (k : Int))] H =
      den pg l85_1 [(0, .bs b 1 es), (3, .i .i64 ((s + z.length : Nat) : Int)), (9, .bs b 1 es), (10, .i .i64 (es.length : Int)), (11, .i .i64 ((k + 1 : Nat) : Int))] H := by
  have hkl := (List.getElem?_eq_some_iff.1 hk).1
  have ix := fun K => k_ixBs (pg := pg) (R := den pg) 1 false b es .i64 (k : Int) K (by omega)
  simp only [Int.toNat_natCast, hk, Option.map_some, up_some] at ix
  have ld := fun K => k_ldV (pg := pg) (R := den pg) b Z hZ.one K
  have ln := fun K => (hZ.view K).lenK K
  have w1 : wrapR .i64 ((s : Int) + (z.length : Int)) = .i .i64 ((s + z.length : Nat) : Int) := by rw [show (s : Int) + (z.length : Int) = ((s + z.length : Nat) : Int) by omega]; exact wrapR_i64 (by omega)
  have w2 : wrapR .i64 ((k : Int) + 1) = .i .i64 ((k + 1 : Nat) : Int) := by rw [show (k : Int) + 1 = ((k + 1 : Nat) : Int) by omega]; exact wrapR_i64 (by omega)
  have d0 : decide ((k : Int) < (es.length : Int)) = true := dT (by omega)
  have d1 : decide (((s + z.length : Nat) : Int) < 0) = false := dF (by omega)
  conv => lhs; rw [l85_1, den_loop]
  generalize (es.length : Int) = N at *
  generalize TV.bs b 1 es = A at *
  simp (disch := omega) [l85_1, b85_0, go_nil, go_last, go_past, go_pastR, go_blkN, go_blkR, go_blkE, go_skip, go_exit, go_ret, go_scope, go_seq, go_reg, go_regd, go_opdN, go_opd, go_opdG, grdd_b, grdd_u, stpd_some, find_some, go_block, go_cond, cnd_b, go_opsN, go_ops, go_opsG, grd_b, grd_u, stp_some, fin_some, up_some, cont_some, k_call, k_mv, k_pick, k_bin, k_eqB, k_eqA, k_not, k_neg, k_conv, k_alloc, k_boxA, k_boxI, k_boxB, k_boxN, k_boxBs, k_ldR, k_ldA, k_ldI, k_ldB, k_stA, k_stI, k_stB, ldC_some, stC_some, k_mkfn, k_slc, k_slcA, k_ixA, k_ixBs, k_ixSl, k_fadr, k_fld, k_ext, k_len, k_app, k_mn, k_mx, k_nilck, k_build, k_bsl1, k_bsl2, b_add, b_sub, b_mul, b_eql, b_neq, b_lss, b_leq, b_gtr, b_geq, Dn.setLast, Dn.getLast, evalO, mapO, Dn.get, putE, keepE_nil, keepE_cons, kp_some, kp_none, TV.one, TV.isAgg, Dn.part, k_boxR, negb, at0, at1, at2, at3, at4, dT, dF, wrapR_i64, Option.bind_some, Option.map_some, ix, ld, ln, w1, w2, d0, d1]

theorem l85_3_step {pg : Pg} {b : Bool} {es : List TV} {Z R R' : TV} {k : Nat} {H H' : Heap} (hk : es[k]? = some Z) (hZ : Z.one = true) (hl : es.length ≤ 1000) (ha : appRun 1 false 8 R Z H = some (R', H')) :
    den pg l85_3 [(6, R), (25, .bs b 1 es), (26, .i .i64 (es.length : Int)), (27, .i .i64 (k : Int))] H = den pg l85_3 [(6, R'), (25, .bs b 1 es), (26, .i .i64 (es.length : Int)), (27, .i .i64 ((k + 1 : Nat) : Int))] H' := by
  have hkl := (List.getElem?_eq_some_iff.1 hk).1
  have ix := fun K => k_ixBs (pg := pg) (R := den pg) 1 false b es .i64 (k : Int) K (by omega)
  simp only [Int.toNat_natCast, hk, Option.map_some, up_some] at ix
  have ld := fun K => k_ldV (pg := pg) (R := den pg) b Z hZ K
  have w2 : wrapR .i64 ((k : Int) + 1) = .i .i64 ((k + 1 : Nat) : Int) := by rw [show (k : Int) + 1 = ((k + 1 : Nat) : Int) by omega]; exact wrapR_i64 (by omega)
  have d0 : decide ((k : Int) < (es.length : Int)) = true := dT (by omega)
  conv => lhs; rw [l85_3, den_loop]
  generalize (es.length : Int) = N at *
  generalize TV.bs b 1 es = A at *
  simp (disch := omega) [l85_3, b85_2, go_nil, go_last, go_past, go_pastR, go_blkN, go_blkR, go_blkE, go_skip, go_exit, go_ret, go_scope, go_seq, go_reg, go_regd, go_opdN, go_opd, go_opdG, grdd_b, grdd_u, stpd_some, find_some, go_block, go_cond, cnd_b, go_opsN, go_ops, go_opsG, grd_b, grd_u, stp_some, fin_some, up_some, cont_some, k_call, k_mv, k_pick, k_bin, k_eqB, k_eqA, k_not, k_neg, k_conv, k_alloc, k_boxA, k_boxI, k_boxB, k_boxN, k_boxBs, k_ldR, k_ldA, k_ldI, k_ldB, k_stA, k_stI, k_stB, ldC_some, stC_some, k_mkfn, k_slc, k_slcA, k_ixA, k_ixBs, k_ixSl, k_fadr, k_fld, k_ext, k_len, k_app, k_mn, k_mx, k_nilck, k_build, k_bsl1, k_bsl2, b_add, b_sub, b_mul, b_eql, b_neq, b_lss, b_leq, b_gtr, b_geq, Dn.setLast, Dn.getLast, evalO, mapO, Dn.get, putE, keepE_nil, keepE_cons, kp_some, kp_none, TV.one, TV.isAgg, Dn.part, k_boxR, negb, at0, at1, at2, at3, at4, dT, dF, wrapR_i64, Option.bind_some, Option.map_some, ix, ld, w2, d0, ha]

theorem l85_1_end {pg : Pg} {A : TV} {s n : Nat} (H : Heap) : ∃ e, den pg l85_1 [(0, A), (3, .i .i64 (s : Int)), (9, A), (10, .i .i64 (n : Int)), (11, .i .i64 (n : Int))] H = some ⟨.exit 0, e, H⟩ ∧ Dn.get e 0 = some A ∧ Dn.get e 3 = some (.i .i64 (s : Int)) := by
  have d0 : decide ((n : Int) < (n : Int)) = false := dF (by omega)
  generalize (n : Int) = N at *
  generalize (s : Int) = S at *
  exact ⟨_, by rw [l85_1, den_loop]; simp (disch := omega) [b85_0, go_nil, go_last, go_past, go_pastR, go_blkN, go_blkR, go_blkE, go_skip, go_exit, go_ret, go_scope, go_seq, go_reg, go_regd, go_opdN, go_opd, go_opdG, grdd_b, grdd_u, stpd_some, find_some, go_block, go_cond, cnd_b, go_opsN, go_ops, go_opsG, grd_b, grd_u, stp_some, fin_some, up_some, cont_some, k_call, k_mv, k_pick, k_bin, k_eqB, k_eqA, k_not, k_neg, k_conv, k_alloc, k_boxA, k_boxI, k_boxB, k_boxN, k_boxBs, k_ldR, k_ldA, k_ldI, k_ldB, k_stA, k_stI, k_stB, ldC_some, stC_some, k_mkfn, k_slc, k_slcA, k_ixA, k_ixBs, k_ixSl, k_fadr, k_fld, k_ext, k_len, k_app, k_mn, k_mx, k_nilck, k_build, k_bsl1, k_bsl2, b_add, b_sub, b_mul, b_eql, b_neq, b_lss, b_leq, b_gtr, b_geq, Dn.setLast, Dn.getLast, evalO, mapO, Dn.get, putE, keepE_nil, keepE_cons, kp_some, kp_none, TV.one, TV.isAgg, Dn.part, k_boxR, negb, at0, at1, at2, at3, at4, dT, dF, wrapR_i64, Option.bind_some, Option.map_some, d0]; rfl, rfl, rfl⟩

theorem l85_3_end {pg : Pg} {A R : TV} {n : Nat} (H : Heap) : ∃ e, den pg l85_3 [(6, R), (25, A), (26, .i .i64 (n : Int)), (27, .i .i64 (n : Int))] H = some ⟨.exit 2, e, H⟩ ∧ Dn.get e 6 = some R := by
  have d0 : decide ((n : Int) < (n : Int)) = false := dF (by omega)
  generalize (n : Int) = N at *
  exact ⟨_, by rw [l85_3, den_loop]; simp (disch := omega) [b85_2, go_nil, go_last, go_past, go_pastR, go_blkN, go_blkR, go_blkE, go_skip, go_exit, go_ret, go_scope, go_seq, go_reg, go_regd, go_opdN, go_opd, go_opdG, grdd_b, grdd_u, stpd_some, find_some, go_block, go_cond, cnd_b, go_opsN, go_ops, go_opsG, grd_b, grd_u, stp_some, fin_some, up_some, cont_some, k_call, k_mv, k_pick, k_bin, k_eqB, k_eqA, k_not, k_neg, k_conv, k_alloc, k_boxA, k_boxI, k_boxB, k_boxN, k_boxBs, k_ldR, k_ldA, k_ldI, k_ldB, k_stA, k_stI, k_stB, ldC_some, stC_some, k_mkfn, k_slc, k_slcA, k_ixA, k_ixBs, k_ixSl, k_fadr, k_fld, k_ext, k_len, k_app, k_mn, k_mx, k_nilck, k_build, k_bsl1, k_bsl2, b_add, b_sub, b_mul, b_eql, b_neq, b_lss, b_leq, b_gtr, b_geq, Dn.setLast, Dn.getLast, evalO, mapO, Dn.get, putE, keepE_nil, keepE_cons, kp_some, kp_none, TV.one, TV.isAgg, Dn.part, k_boxR, negb, at0, at1, at2, at3, at4, dT, dF, wrapR_i64, Option.bind_some, Option.map_some, d0]; rfl, rfl⟩

theorem fn85 {pg : Pg} (hF : Free pg) {b : Bool} {X Y : TV} {x y : List Int} (hX : SV X x) (hY : SV Y y) (hx : x ≠ []) (hl : x.length + y.length ≤ 1000) : PFn pg 85 [.bs b 1 [X, Y]] (elI.lt false (x ++ y)) := by
  have hxl : 0 < x.length := List.length_pos_iff.2 hx
  have s1 := l85_1_step (pg := pg) (b := b) (es := [X, Y]) (k := 0) (s := 0) (Z := X) rfl hX (by simp) (by omega) ([] : Heap)
  have s2 := l85_1_step (pg := pg) (b := b) (es := [X, Y]) (k := 1) (s := 0 + x.length) (Z := Y) rfl hY (by simp) (by omega) ([] : Heap)
  obtain ⟨e, e1, e2, e3⟩ := l85_1_end (pg := pg) (A := .bs b 1 [X, Y]) (s := 0 + x.length + y.length) (n := 2) ([] : Heap)
  have r1 := (s1.trans s2).trans e1
  have g1 := body97 (pg := pg) hF (m := 0 + x.length + y.length) (by omega) (by omega) []
  obtain ⟨H1, hH1⟩ : ∃ H1 : Heap, H1 = [] ++ [AObj.cells (repl [.i .i64 0] (0 + x.length + y.length)) false] := ⟨_, rfl⟩
  rw [← hH1] at g1
  simp only [List.length_nil] at g1
  have g1' : callRun pg (den pg) .sh [.fn 97 [] [], .nilsl, .i .i64 ((0 + x.length + y.length : Nat) : Int)] [] = some (.sl 0 0 1 false 0 none, H1) := by rw [sh_fn]; exact g1
  -- the first slice
  obtain ⟨H2, hH2⟩ : ∃ H2 : Heap, H2 = H1.set 0 .dead ++ [.cells (elI.flat x) false] := ⟨_, rfl⟩
  have hl1 : H1.length = 1 := by rw [hH1]; rfl
  have a1 : appRun 1 false 8 (.sl 0 0 1 false 0 none) X H1 = some (.sl 1 0 1 false x.length none, H2) := by
    have hv := hX.view H1
    have h0 : H1[0]? = some (.cells (repl [.i .i64 0] (0 + x.length + y.length)) false) := by rw [hH1]; rfl
    have hall := elI.flat_all x
    have hfl : (elI.flat x).length = x.length * 1 := elI.flat_len x
    unfold appRun
    have q1 := hv.lenOf H1
    have q2 : flatOf 1 X H1 = some (elI.flat x) := hv.flatOf
    rw [q1, Option.bind_some, q2, Option.bind_some]
    simp only [lenOf, Option.bind_some]
    rw [if_pos ⟨by omega, hall, hfl⟩, if_neg (by omega)]
    simp only [if_true, h0]
    rw [if_pos (by omega), hH2, hl1]
    simp
  have own1 : elI.Own H2 (.sl 1 0 1 false x.length none) x := .inr ⟨hx, 1, false, elI.flat x, rfl, by rw [hH2]; simp [hl1], by rw [elI.flat_len]; exact Nat.le_refl _, by rw [List.take_of_length_le]; rw [elI.flat_len]; exact Nat.le_refl _⟩
  obtain ⟨R', H3, a2, own2, _⟩ := appI own1 (hY.view H2) (by omega)
  have t1 := l85_3_step (pg := pg) (b := b) (es := [X, Y]) (k := 0) (Z := X) rfl hX.one (by simp) a1
  have t2 := l85_3_step (pg := pg) (b := b) (es := [X, Y]) (k := 1) (Z := Y) rfl hY.one (by simp) a2
  obtain ⟨e', e4, e5⟩ := l85_3_end (pg := pg) (A := .bs b 1 [X, Y]) (R := R') (n := 2) H3
  have r2 := (t1.trans t2).trans e4
  have sR := own2.fin elI_flat
  have ln : ∀ K, lenK 0 (.bs b 1 [X, Y]) K = some 2 := fun K => rfl
  refine .inr ⟨hF.S _ _ (by decide), R', H3, body_of (x := .ret) (e := [(2, R')]) (d := d85) (by rw [hF.F]; rfl) rfl ?_ (.inl rfl) rfl, sR⟩
  simp only [List.length_cons, List.length_nil, Nat.zero_add, Nat.reduceAdd, Int.natCast_zero, Int.cast_ofNat_Int] at r1 r2 g1' e3
  generalize ((x.length + y.length : Nat) : Int) = S at *
  generalize TV.bs b 1 [X, Y] = A at *
  simp (disch := omega) [d85, c85, zipE, go_nil, go_last, go_past, go_pastR, go_blkN, go_blkR, go_blkE, go_skip, go_exit, go_ret, go_scope, go_seq, go_reg, go_regd, go_opdN, go_opd, go_opdG, grdd_b, grdd_u, stpd_some, find_some, go_block, go_cond, cnd_b, go_opsN, go_ops, go_opsG, grd_b, grd_u, stp_some, fin_some, up_some, cont_some, k_call, k_mv, k_pick, k_bin, k_eqB, k_eqA, k_not, k_neg, k_conv, k_alloc, k_boxA, k_boxI, k_boxB, k_boxN, k_boxBs, k_ldR, k_ldA, k_ldI, k_ldB, k_stA, k_stI, k_stB, ldC_some, stC_some, k_mkfn, k_slc, k_slcA, k_ixA, k_ixBs, k_ixSl, k_fadr, k_fld, k_ext, k_len, k_app, k_mn, k_mx, k_nilck, k_build, k_bsl1, k_bsl2, b_add, b_sub, b_mul, b_eql, b_neq, b_lss, b_leq, b_gtr, b_geq, Dn.setLast, Dn.getLast, evalO, mapO, Dn.get, putE, keepE_nil, keepE_cons, kp_some, kp_none, TV.one, TV.isAgg, Dn.part, k_boxR, negb, at0, at1, at2, at3, at4, dT, dF, wrapR_i64, Option.bind_some, Option.map_some, ln, go_denK (c := l85_1) rfl, go_denK (c := l85_3) rfl, r1, r2, e2, e3, e5, g1']

end Go.Proofs.Tryd.Dn

/-
  Knight: the search for guards.
-/

namespace Go.Proofs.Tryd.Dn
open Go.Dn

theorem fn64 {pg : Pg} (hF : Free pg) {x : Nat} (hx : x < 18446744073709551616) : PFn pg 64 [.i .u64 (x : Int)] (elI.lt false (nI (mem64 x))) := by
  obtain ⟨R, H', h1, h2, _⟩ := body64 (pg := pg) hF hx []
  exact .inr ⟨hF.S _ _ (by decide), R, H', h1, h2.fin elI_flat⟩

theorem call64 {pg : Pg} (hF : Free pg) {x : Nat} (hx : x < 18446744073709551616) (H : Heap) : callRun pg (den pg) (.pu []) [.fn 64 [] [], .i .u64 (x : Int)] H = some (elI.lt false (nI (mem64 x)), H) :=
  PFn.at (fn64 hF hx) (fun H => sa_I sa_0) H

theorem fn83 {pg : Pg} (hF : Free pg) {r c x : Nat} {bo : Bool} (h : Brd r c) (hx : x < 2 ^ (r * c)) : PFn pg 83 [.bp bo (.agg (bM r c)), .i .u64 (x : Int)] (.i .u64 (cov r c x : Int)) := by
  have h64 := lv64 h
  have har := around_lt h hx
  have c71 := call71 (pg := pg) hF (bo := bo) h hx []
  have an := or_uu (m := x) (k := around r c x) (by omega) (by omega)
  refine .inr ⟨hF.S _ _ (by decide), .i .u64 (cov r c x : Int), [], body_of (x := .ret) (e := [(4, .i .u64 (cov r c x : Int))]) (d := d83) (by rw [hF.F]; rfl) rfl ?_ (.inl rfl) rfl, sn_i _ _ _ _⟩
  unfold cov
  generalize TV.bp bo (.agg (bM r c)) = BP at *
  generalize x ||| around r c x = V at *
  simp (disch := omega) [d83, c83, zipE, go_nil, go_last, go_past, go_pastR, go_blkN, go_blkR, go_blkE, go_skip, go_exit, go_ret, go_scope, go_seq, go_reg, go_regd, go_opdN, go_opd, go_opdG, grdd_b, grdd_u, stpd_some, find_some, go_block, go_cond, cnd_b, go_opsN, go_ops, go_opsG, grd_b, grd_u, stp_some, fin_some, up_some, cont_some, k_call, k_mv, k_pick, k_bin, k_eqB, k_eqA, k_not, k_neg, k_conv, k_alloc, k_boxA, k_boxI, k_boxB, k_boxN, k_boxBs, k_ldR, k_ldA, k_ldI, k_ldB, k_stA, k_stI, k_stB, ldC_some, stC_some, k_mkfn, k_slc, k_slcA, k_ixA, k_ixBs, k_ixSl, k_fadr, k_fld, k_ext, k_len, k_app, k_mn, k_mx, k_nilck, k_build, k_bsl1, k_bsl2, b_add, b_sub, b_mul, b_eql, b_neq, b_lss, b_leq, b_gtr, b_geq, Dn.setLast, Dn.getLast, evalO, mapO, Dn.get, putE, keepE_nil, keepE_cons, kp_some, kp_none, TV.one, TV.isAgg, Dn.part, k_boxR, negb, at0, at1, at2, at3, at4, dT, dF, wrapR_i64, Option.bind_some, Option.map_some, c71, an]

theorem Bv.call83 {pg : Pg} (hF : Free pg) {r c x : Nat} {H : Heap} {BV : TV} (hb : Bv r c H BV) (h : Brd r c) (hx : x < 2 ^ (r * c)) : callRun pg (den pg) (.pu []) [.fn 83 [] [], BV, .i .u64 (x : Int)] H = some (.i .u64 (cov r c x : Int), H) := by
  unfold Bv at hb
  exact PFn.call (fn83 hF (bo := true) h hx) (args := [BV, .i .u64 (x : Int)]) (by simp [snapArgs, sn_i, hb])

theorem Bv.call81 {pg : Pg} (hF : Free pg) {r c : Nat} {H : Heap} {BV : TV} (hb : Bv r c H BV) (h : Brd r c) : callRun pg (den pg) (.pu []) [.fn 81 [] [], BV] H = some (.i .u64 ((2 ^ (r * c) - 1 : Nat) : Int), H) := by
  have h1 := Go.Proofs.Tryd.Dn.call81 (pg := pg) hF (bo := true) h H
  unfold Bv at hb
  have hb' := snap_bp true H r c
  simp only [callRun, snapArgs, List.nil_append, List.append_nil, List.headD_nil, Bool.false_eq_true, if_false, hb, hb'] at h1 ⊢
  exact h1

structure GdS (r c A best : Nat) (H : Heap) : Prop where
  pos : 0 < A
  brd : H[0]? = some (.cells (bM r c) true)
  b : H[A]? = some (.cells [.ref 0 0] false)
  v : H[A + 1]? = some (.cells [.i .u64 (best : Int)] false)
  f : H[A + 2]? = some (.cells [.fn 82 [] [.ref A 0, .ref (A + 1) 0, .ref (A + 2) 0]] false)

theorem GdS.lt {r c A best : Nat} {H : Heap} (h : GdS r c A best H) : A + 2 < H.length := (List.getElem?_eq_some_iff.1 h.f).1

theorem GdS.more {r c A best : Nat} {H : Heap} (h : GdS r c A best H) (K : Heap) : GdS r c A best (H ++ K) := by
  have hl := h.lt
  have e : ∀ j, j < A + 3 → (H ++ K)[j]? = H[j]? := fun j hj => List.getElem?_append_left (by omega)
  exact ⟨h.pos, by rw [e _ (by omega)]; exact h.brd, by rw [e _ (by omega)]; exact h.b, by rw [e _ (by omega)]; exact h.v, by rw [e _ (by omega)]; exact h.f⟩

theorem GdS.put {r c A best x : Nat} {H : Heap} (h : GdS r c A best H) : GdS r c A x (H.set (A + 1) (.cells [.i .u64 (x : Int)] false)) := by
  have hl := h.lt
  have hp := h.pos
  exact ⟨h.pos, by rw [List.getElem?_set_ne (by omega)]; exact h.brd, by rw [List.getElem?_set_ne (by omega)]; exact h.b, by rw [List.getElem?_set_self (by omega)], by rw [List.getElem?_set_ne (by omega)]; exact h.f⟩

def GSpec (pg : Pg) (r c A set : Nat) : Prop := ∀ (H : Heap) (best : Nat), GdS r c A best H → best < 2 ^ (r * c) → gdB r c best = true →
  ∃ H' best', bodyRun pg (den pg) 82 [.i .u64 (set : Int), .ref A 0, .ref (A + 1) 0, .ref (A + 2) 0] H = some (.tup [], H') ∧ GdS r c A best' H' ∧ Better r c best best' set

theorem l82_all {pg : Pg} {r c A set : Nat} (h : Brd r c) (hset : set < 2 ^ (r * c)) {T : TV} {ts : List Nat} (hT : SV T (nI ts)) (hts : ∀ t, t ∈ ts → t < r * c) (hlen : ts.length ≤ 1000) (sp : ∀ t, t ∈ ts → set.testBit t = false → GSpec pg r c A (set ||| 2 ^ t))
    (sp1 : ∀ t, t ∈ ts → set.testBit t = true → False) :
    ∀ (d k : Nat) (H : Heap) (best0 best : Nat), k + d = ts.length → GdS r c A best H → best < 2 ^ (r * c) → gdB r c best = true → pop 64 best ≤ pop 64 best0 →
      (∀ j, j < k → ∀ t, ts[j]? = some t → ∀ g, g < 2 ^ (r * c) → gdB r c g = true → Sub (set ||| 2 ^ t) g → pop 64 best ≤ pop 64 g) →
      ∃ e H' best', den pg l82_1 [(0, .i .u64 (set : Int)), (3, .ref (A + 2) 0), (41, T), (42, .i .i64 (ts.length : Int)), (43, .i .i64 (k : Int))] H = some ⟨.exit 0, e, H'⟩ ∧ GdS r c A best' H' ∧ best' < 2 ^ (r * c) ∧ gdB r c best' = true ∧ pop 64 best' ≤ pop 64 best0 ∧
        (∀ t, t ∈ ts → ∀ g, g < 2 ^ (r * c) → gdB r c g = true → Sub (set ||| 2 ^ t) g → pop 64 best' ≤ pop 64 g) := by
  intro d
  have h64 := lv64 h
  have hn := h.n36
  induction d with
  | zero =>
    intro k H best0 best hd hS hb hg hp hall
    have d0 : decide ((k : Int) < (ts.length : Int)) = false := dF (by omega)
    refine ⟨_, H, best, by
      rw [l82_1, den_loop]
      simp (disch := omega) [b82_0, go_nil, go_last, go_past, go_pastR, go_blkN, go_blkR, go_blkE, go_skip, go_exit, go_ret, go_scope, go_seq, go_reg, go_regd, go_opdN, go_opd, go_opdG, grdd_b, grdd_u, stpd_some, find_some, go_block, go_cond, cnd_b, go_opsN, go_ops, go_opsG, grd_b, grd_u, stp_some, fin_some, up_some, cont_some, k_call, k_mv, k_pick, k_bin, k_eqB, k_eqA, k_not, k_neg, k_conv, k_alloc, k_boxA, k_boxI, k_boxB, k_boxN, k_boxBs, k_ldR, k_ldA, k_ldI, k_ldB, k_stA, k_stI, k_stB, ldC_some, stC_some, k_mkfn, k_slc, k_slcA, k_ixA, k_ixBs, k_ixSl, k_fadr, k_fld, k_ext, k_len, k_app, k_mn, k_mx, k_nilck, k_build, k_bsl1, k_bsl2, b_add, b_sub, b_mul, b_eql, b_neq, b_lss, b_leq, b_gtr, b_geq, Dn.setLast, Dn.getLast, evalO, mapO, Dn.get, putE, keepE_nil, keepE_cons, kp_some, kp_none, TV.one, TV.isAgg, Dn.part, k_boxR, negb, at0, at1, at2, at3, at4, dT, dF, wrapR_i64, Option.bind_some, Option.map_some, d0]
      rfl, hS, hb, hg, hp, fun t ht => ?_⟩
    obtain ⟨j, hj, rfl⟩ := List.getElem_of_mem ht
    exact hall j (by omega) _ (List.getElem?_eq_getElem hj)
  | succ d ih =>
    intro k H best0 best hd hS hb hg hp hall
    have hk : k < ts.length := by omega
    obtain ⟨t, ht⟩ : ∃ t, ts[k]? = some t := ⟨_, List.getElem?_eq_getElem hk⟩
    have htm : t ∈ ts := List.mem_of_getElem? ht
    have htn := hts t htm
    have htb : set.testBit t = false := by
      cases hh : set.testBit t with
      | false => rfl
      | true => exact (sp1 t htm hh).elim
    obtain ⟨H', best', r1, r2, r3⟩ := sp t htm htb H best hS hb hg
    obtain ⟨e, H2, best2, q1, q2, q3, q4, q5, q6⟩ := ih (k + 1) H' best0 best' (by omega) r2 r3.lt r3.gd (Nat.le_trans r3.le hp) fun j hj u hu g g1 g2 g3 => by
      rcases Nat.lt_or_ge j k with hjk | hjk
      · exact Nat.le_trans r3.le (hall j hjk u hu g g1 g2 g3)
      · have hjk2 : j = k := by omega
        rw [hjk2, ht] at hu
        have hut : t = u := Option.some.inj hu
        rw [← hut] at g3
        exact r3.all g g1 g2 g3
    refine ⟨e, H2, best2, Eq.trans ?_ q1, q2, q3, q4, q5, q6⟩
    obtain ⟨p, p1, p2⟩ := ixI (pg := pg) (R := den pg) (hT.view H) (nI_at ht)
    have lf := ld_box (pg := pg) (R := den pg) hS.f rfl
    have wt : wrapR .u64 (t : Int) = .i .u64 (t : Int) := wrap_u (by omega)
    have sh := Dn.shl_u (k := .u64) (c := t) (by omega)
    have h2t : 2 ^ t < 2 ^ (r * c) := Nat.pow_lt_pow_right (by decide) htn
    have orr := or_uu (m := set) (k := 2 ^ t) (by omega) (by omega)
    have d0 : decide ((k : Int) < (ts.length : Int)) = true := dT (by omega)
    have rr : callRun pg (den pg) .sh [.fn 82 [] [.ref A 0, .ref (A + 1) 0, .ref (A + 2) 0], .i .u64 ((set ||| 2 ^ t : Nat) : Int)] H = some (.tup [], H') := by rw [sh_fn]; exact r1
    rw [l82_1, den_loop]
    generalize (ts.length : Int) = N at *
    generalize set ||| 2 ^ t = Y at *
    generalize ((2 ^ t : Nat) : Int) = Z at *
    simp (disch := omega) [l82_1, b82_0, go_nil, go_last, go_past, go_pastR, go_blkN, go_blkR, go_blkE, go_skip, go_exit, go_ret, go_scope, go_seq, go_reg, go_regd, go_opdN, go_opd, go_opdG, grdd_b, grdd_u, stpd_some, find_some, go_block, go_cond, cnd_b, go_opsN, go_ops, go_opsG, grd_b, grd_u, stp_some, fin_some, up_some, cont_some, k_call, k_mv, k_pick, k_bin, k_eqB, k_eqA, k_not, k_neg, k_conv, k_alloc, k_boxA, k_boxI, k_boxB, k_boxN, k_boxBs, k_ldR, k_ldA, k_ldI, k_ldB, k_stA, k_stI, k_stB, ldC_some, stC_some, k_mkfn, k_slc, k_slcA, k_ixA, k_ixBs, k_ixSl, k_fadr, k_fld, k_ext, k_len, k_app, k_mn, k_mx, k_nilck, k_build, k_bsl1, k_bsl2, b_add, b_sub, b_mul, b_eql, b_neq, b_lss, b_leq, b_gtr, b_geq, Dn.setLast, Dn.getLast, evalO, mapO, Dn.get, putE, keepE_nil, keepE_cons, kp_some, kp_none, TV.one, TV.isAgg, Dn.part, k_boxR, negb, at0, at1, at2, at3, at4, dT, dF, wrapR_i64, Option.bind_some, Option.map_some, d0, p1, p2, lf, wt, sh, orr, rr]

end Go.Proofs.Tryd.Dn

