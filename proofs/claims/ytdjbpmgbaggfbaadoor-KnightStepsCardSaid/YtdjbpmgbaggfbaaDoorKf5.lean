/-
  Knight: the least number of steps.
-/
import Derived.Test.YtdjbpmgbaggfbaaDoorKf4
import Derived.Test.YtdjbpmgbaggfbaaDoorKf3
set_option linter.unusedSimpArgs false
set_option linter.unusedVariables false

namespace Go.Proofs.Tryd.Dn
open Go.Dn

theorem fn29 {pg : Pg} (hF : Free pg) {r c a b : Nat} (h : Brd r c) (ha : a < r * c) (hb : b < r * c) :
    (∃ m : Nat, PFn pg 29 [.i .i64 (r : Int), .i .i64 (c : Int), .i .i64 (a : Int), .i .i64 (b : Int)] (.tup [.i .i64 (m : Int), .b true, .i .i64 0]) ∧ (front r c a m).testBit b = true ∧ (∀ k, k < m → (front r c a k).testBit b = false) ∧ m ≤ 64) ∨
    (∃ m : Nat, PFn pg 29 [.i .i64 (r : Int), .i .i64 (c : Int), .i .i64 (a : Int), .i .i64 (b : Int)] (.tup [.i .i64 0, .b false, .i .i64 0]) ∧ front r c a m = 0 ∧ ∀ k, k < m → (front r c a k).testBit b = false) := by
  have hn := h.n36
  obtain ⟨H0, hH0⟩ : ∃ H0 : Heap, H0 = [.cells [.i .i64 (a : Int), .i .i64 (b : Int)] false] := ⟨_, rfl⟩
  have hv : elI.View H0 (.sl 0 0 1 false 2 (some 2)) [(a : Int), (b : Int)] := by rw [hH0]; exact two_view [] _ _
  obtain ⟨H1, h1, h2, h3, h4⟩ := body59 hF h hv (by simp)
  have hno : [(a : Int), (b : Int)].any (outB ((r * c : Nat) : Int)) = false := by rw [List.any_cons, List.any_cons, inB ha, inB hb]; rfl
  have hl0 : H0.length = 1 := by rw [hH0]; rfl
  rw [hno, hl0] at h1
  rw [hl0] at h2 h3
  simp only [Bool.false_eq_true, if_false] at h1
  have hd : pg.F 29 = some d29 := by rw [hF.F]; rfl
  have kb : dkc pg (den pg) (.bsl false [.i .i64 0] false 2 [0, 1]) [.i .i64 (a : Int), .i .i64 (b : Int)] [] = some (.sl 0 0 1 false 2 (some 2), H0) := by rw [k_bsl2, hH0]; rfl
  have hsn : snap .borrow H1 9 (.ref 1 0) = some (.bp true (.agg (bM r c))) := by
    have hm : mapO (snap .borrow H1 8) (bM r c) = some (bM r c) := mapO_self fun x hx => by obtain ⟨k, n, rfl⟩ := bM_int hx; exact sn8_i _ _ _ _
    rw [snap]
    simp [h2, hm]
  have w0 : wrapR .i64 (-1 : Int) = .i .i64 (-1) := wrapR_i64 (by omega)
  rcases fn65 hF (bo := true) h ha hb with ⟨m, ws, p1, p2, p3, p4⟩ | ⟨m, p2, p3, p4⟩
  · obtain ⟨N, hN, hz⟩ := lv_end h ha
    have hm64 : m ≤ 64 := by
      apply Classical.byContradiction
      intro hc
      have h1 := front_walks h ha m b hb p3
      have h2 := no_steps h ha hb (N := N) hz (fun k hk => p4 k (by omega)) m
      omega
    have c65 := PFn.call p2 (args := [.ref 1 0, .i .i64 (a : Int), .i .i64 (b : Int)]) (ks := []) (fs := []) (cs := []) (H := H1) (by simp [snapArgs, sn_i, hsn])
    have hlen := El.lt_len (E := elI) false ws
    rw [p1] at hlen
    have hne : ∃ l, elI.lt false ws = .bs false 1 l := by
      cases ws with
      | nil => simp at p1
      | cons x l => exact ⟨_, rfl⟩
    obtain ⟨l, hl⟩ := hne
    rw [hl] at c65 hlen
    have w1 : wrapR .i64 (m : Int) = .i .i64 (m : Int) := wrapR_i64 (by omega)
    refine .inl ⟨m, .of2 (x := .ret) (e := [(8, .i .i64 (m : Int)), (9, .b true), (10, .i .i64 0)]) (H' := H1) (hF.S _ _ (by decide)) hd rfl ?_ (.inl rfl) rfl (by simp) (by simp [sn_i, sn_b, sn_nil, sn8_i, sn8_b, sn8_nil, sn7_i, sn7_b, sn_sl, sn8_sl, slB_some, sn_tup, sn_agg, sn8_agg, mapO, elems]), p3, p4, hm64⟩
    have hen : dkc pg (den pg) (.eqN 0 true) [.bs false 1 l, .nilsl] H1 = some (.b true, H1) := rfl
    by_cases hpos : 0 < m
    · simp [d29, c29, zipE, go_nil, go_last, go_past, go_pastR, go_blkN, go_blkR, go_blkE, go_skip, go_exit, go_ret, go_scope, go_seq, go_reg, go_regd, go_opdN, go_opd, go_opdG, grdd_b, grdd_u, stpd_some, find_some, go_block, go_cond, cnd_b, go_opsN, go_ops, go_opsG, grd_b, grd_u, stp_some, fin_some, up_some, cont_some, k_call, k_mv, k_pick, k_bin, k_eqB, k_eqA, k_not, k_neg, k_conv, k_alloc, k_boxA, k_boxI, k_boxB, k_boxN, k_boxBs, k_ldR, k_ldA, k_ldI, k_ldB, k_stA, k_stI, k_stB, ldC_some, stC_some, k_mkfn, k_slc, k_slcA, k_ixA, k_ixBs, k_ixSl, k_fadr, k_fld, k_ext, k_len, k_app, k_mn, k_mx, k_nilck, k_build, k_bsl1, k_bsl2, b_add, b_sub, b_mul, b_eql, b_neq, b_lss, b_leq, b_gtr, b_geq, Dn.setLast, Dn.getLast, evalO, mapO, Dn.get, putE, keepE, TV.one, TV.isAgg, Dn.part, kb, sh_fn, h1, c65, hlen, w1, hpos, hen]
    · have : m = 0 := by omega
      subst this
      have w2 : wrapR .i64 (0 : Int) = .i .i64 0 := wrapR_i64 (by omega)
      simp [d29, c29, zipE, go_nil, go_last, go_past, go_pastR, go_blkN, go_blkR, go_blkE, go_skip, go_exit, go_ret, go_scope, go_seq, go_reg, go_regd, go_opdN, go_opd, go_opdG, grdd_b, grdd_u, stpd_some, find_some, go_block, go_cond, cnd_b, go_opsN, go_ops, go_opsG, grd_b, grd_u, stp_some, fin_some, up_some, cont_some, k_call, k_mv, k_pick, k_bin, k_eqB, k_eqA, k_not, k_neg, k_conv, k_alloc, k_boxA, k_boxI, k_boxB, k_boxN, k_boxBs, k_ldR, k_ldA, k_ldI, k_ldB, k_stA, k_stI, k_stB, ldC_some, stC_some, k_mkfn, k_slc, k_slcA, k_ixA, k_ixBs, k_ixSl, k_fadr, k_fld, k_ext, k_len, k_app, k_mn, k_mx, k_nilck, k_build, k_bsl1, k_bsl2, b_add, b_sub, b_mul, b_eql, b_neq, b_lss, b_leq, b_gtr, b_geq, Dn.setLast, Dn.getLast, evalO, mapO, Dn.get, putE, keepE, TV.one, TV.isAgg, Dn.part, kb, sh_fn, h1, c65, hlen, w2, hen]
  · have c65 := PFn.call p2 (args := [.ref 1 0, .i .i64 (a : Int), .i .i64 (b : Int)]) (ks := []) (fs := []) (cs := []) (H := H1) (by simp [snapArgs, sn_i, hsn])
    refine .inr ⟨m, .of2 (x := .ret) (e := [(8, .i .i64 0), (9, .b false), (10, .i .i64 0)]) (H' := H1) (hF.S _ _ (by decide)) hd rfl ?_ (.inl rfl) rfl (by simp) (by simp [sn_i, sn_b, sn_nil, sn8_i, sn8_b, sn8_nil, sn7_i, sn7_b, sn_sl, sn8_sl, slB_some, sn_tup, sn_agg, sn8_agg, mapO, elems]), p3, p4⟩
    have hen : dkc pg (den pg) (.eqN 0 true) [.nilsl, .nilsl] H1 = some (.b false, H1) := rfl
    have hlen : ∀ K, lenK 0 .nilsl K = some 0 := fun K => rfl
    simp [d29, c29, zipE, go_nil, go_last, go_past, go_pastR, go_blkN, go_blkR, go_blkE, go_skip, go_exit, go_ret, go_scope, go_seq, go_reg, go_regd, go_opdN, go_opd, go_opdG, grdd_b, grdd_u, stpd_some, find_some, go_block, go_cond, cnd_b, go_opsN, go_ops, go_opsG, grd_b, grd_u, stp_some, fin_some, up_some, cont_some, k_call, k_mv, k_pick, k_bin, k_eqB, k_eqA, k_not, k_neg, k_conv, k_alloc, k_boxA, k_boxI, k_boxB, k_boxN, k_boxBs, k_ldR, k_ldA, k_ldI, k_ldB, k_stA, k_stI, k_stB, ldC_some, stC_some, k_mkfn, k_slc, k_slcA, k_ixA, k_ixBs, k_ixSl, k_fadr, k_fld, k_ext, k_len, k_app, k_mn, k_mx, k_nilck, k_build, k_bsl1, k_bsl2, b_add, b_sub, b_mul, b_eql, b_neq, b_lss, b_leq, b_gtr, b_geq, Dn.setLast, Dn.getLast, evalO, mapO, Dn.get, putE, keepE, TV.one, TV.isAgg, Dn.part, kb, sh_fn, h1, c65, hlen, w0, hen]

end Go.Proofs.Tryd.Dn

/-
  Knight: the law of steps.
-/

namespace Go.Proofs.Tryd.Dn
open Go.Dn

/-- a walk can be drawn out by a step to and fro -/
theorem walks_more {r c a b k s : Nat} (hb : b < r * c) (hs : s < r * c) (hn : near c s b = true) (hp : 0 < walks r c a k b) : 0 < walks r c a (k + 2) b :=
  (walks_pos hb).2 ⟨s, hs, hn, (walks_pos hs).2 ⟨b, hb, by rw [near_comm]; exact hn, hp⟩⟩

theorem walks_even {r c a b m : Nat} (hb : b < r * c) (hm : 0 < m) (hp : 0 < walks r c a m b) : ∀ j, 0 < walks r c a (m + 2 * j) b := by
  obtain ⟨m', rfl⟩ : ∃ m', m = m' + 1 := ⟨m - 1, by omega⟩
  obtain ⟨s, h1, h2, _⟩ := (walks_pos hb).1 hp
  intro j
  induction j with
  | zero => exact hp
  | succ j ih => exact walks_more hb h1 h2 ih

/-- what the law asks of the number of walks -/
theorem steps_end {r c a b m n : Nat} (h : Brd r c) (ha : a < r * c) (hb : b < r * c) (hm : (front r c a m).testBit b = true) (hleast : ∀ k, k < m → (front r c a k).testBit b = false) :
    (n < m → walks r c a n b = 0) ∧ (m ≤ n → (n - m) % 2 = 0 → m ≠ 0 → 0 < walks r c a n b) := by
  obtain ⟨hp, hl⟩ := steps_law h ha hb hm hleast
  refine ⟨fun hn => ?_, fun hn h2 h0 => ?_⟩
  · apply Classical.byContradiction
    intro hc
    have := (hl n (Nat.pos_of_ne_zero hc)).1
    omega
  · have := walks_even hb (Nat.pos_of_ne_zero h0) hp ((n - m) / 2)
    rw [show m + 2 * ((n - m) / 2) = n by omega] at this
    exact this

end Go.Proofs.Tryd.Dn

/-
  Knight: the law of steps, run.
-/

namespace Go.Proofs.Tryd.Dn
open Go.Dn

set_option maxRecDepth 100000 in
theorem run5 {pg : Pg} (hF : Free pg) (h25 : PFn pg 25 [] (.b true)) (x y u v s : Int) : ∃ H, bodyRun pg (den pg) 5 [.i .i64 x, .i .i64 y, .agg [.i .i64 u, .i .i64 v, .i .i64 s]] [] = some (.b true, H) := by
  obtain ⟨r, c, h, c18⟩ := call18 hF x y
  have hn := h.n36
  have h1 : 1 ≤ r * c := Nat.mul_pos h.r1 h.c1
  obtain ⟨hcast, wn⟩ := rc_facts h
  obtain ⟨wa, a, a1, a2, a3, a4⟩ := conv_rem u h1 hn
  obtain ⟨wb, b, b1, b2, b3, b4⟩ := conv_rem v h1 hn
  obtain ⟨wq, q, q1, q2, q3, q4⟩ := conv_rem s (n := 15) (by omega) (by omega)
  have q2' : binI .rem (.i .u64 (wq : Int)) (.i .u64 15) = some (.i .u64 (q : Int)) := q2
  have un := wrap_un hn
  rw [hcast] at un a2 b2
  have c25 := fun H => PFn.call h25 (args := []) (ks := []) (fs := []) (cs := []) (H := H) (by simp [snapArgs])
  obtain ⟨H0, hH0⟩ : ∃ H0 : Heap, H0 = [.cells [.i .i64 u, .i .i64 v, .i .i64 s] true] := ⟨_, rfl⟩
  have bx : dkc pg (den pg) (.box true) [.agg [.i .i64 u, .i .i64 v, .i .i64 s]] [] = some (.ref 0 0, H0) := by
    rw [k_boxA _ _ (by rfl), hH0]; rfl
  have x0 : dkc pg (den pg) (.ixA 3 1 false) [.ref 0 0, .i .i64 0] H0 = some (.ref 0 0, H0) := by rw [hH0]; rfl
  have x1 : dkc pg (den pg) (.ixA 3 1 false) [.ref 0 0, .i .i64 1] H0 = some (.ref 0 1, H0) := by rw [hH0]; rfl
  have x2 : dkc pg (den pg) (.ixA 3 1 false) [.ref 0 0, .i .i64 2] H0 = some (.ref 0 2, H0) := by rw [hH0]; rfl
  have y0 : dkc pg (den pg) (.ld 1 false) [.ref 0 0] H0 = some (.i .i64 u, H0) := by rw [hH0]; rfl
  have y1 : dkc pg (den pg) (.ld 1 false) [.ref 0 1] H0 = some (.i .i64 v, H0) := by rw [hH0]; rfl
  have y2 : dkc pg (den pg) (.ld 1 false) [.ref 0 2] H0 = some (.i .i64 s, H0) := by rw [hH0]; rfl
  have w1 : wrapR .i64 ((q : Int) + 1) = .i .i64 ((q : Int) + 1) := wrapR_i64 (by omega)
  have hq1 : ((q : Int) + 1).toNat = q + 1 := by omega
  have f1 := fn26 hF h a3 b3 ((q : Int) + 1)
  have f2 := fn26 hF h b3 a3 ((q : Int) + 1)
  rw [if_neg (by omega), hq1] at f1 f2
  rw [← walks_symm (q + 1) a b a3 b3] at f2
  have c26 := fun K => PFn.call f1 (args := [.i .i64 (r : Int), .i .i64 (c : Int), .i .i64 (a : Int), .i .i64 (b : Int), .i .i64 ((q : Int) + 1)]) (ks := []) (fs := []) (cs := []) (H := K) (by simp [snapArgs, sn_i])
  have c26' := fun K => PFn.call f2 (args := [.i .i64 (r : Int), .i .i64 (c : Int), .i .i64 (b : Int), .i .i64 (a : Int), .i .i64 ((q : Int) + 1)]) (ks := []) (fs := []) (cs := []) (H := K) (by simp [snapArgs, sn_i])
  have c28 := fun K => PFn.call (fn28 hF h b3) (args := [.i .i64 (r : Int), .i .i64 (c : Int), .i .i64 (b : Int)]) (ks := []) (fs := []) (cs := []) (H := K) (by simp [snapArgs, sn_i])
  have hsum := moves_sum (a := a) h b3 q
  have hle := walks_le (a := a) h (q + 1) b
  have hp15 := pow15 (k := q + 1) (by omega)
  obtain ⟨e, k1, k2⟩ := l5_1_all hF h a3 (q := q) (by omega) (B := .i .i64 (b : Int)) (T := .i .i64 (walks r c a (q + 1) b : Int)) (H := H0) (ls := movesOf r c b) (fun s hs => moves_in h b3 hs) (mem64_le _) (movesOf r c b).length 0 0 (by omega) (by rw [List.drop_zero, hsum]; omega)
  rw [List.drop_zero, hsum, Nat.zero_add] at k2
  simp only [Int.natCast_zero] at k1
  have g0 := keep_get k2 (s := 0) (by simp) rfl
  have g1 := keep_get k2 (s := 1) (by simp) rfl
  have g7 := keep_get k2 (s := 7) (by simp) rfl
  have g8 := keep_get k2 (s := 8) (by simp) rfl
  have g9 := keep_get k2 (s := 9) (by simp) rfl
  have g10 := keep_get k2 (s := 10) (by simp) rfl
  have g16 := keep_get k2 (s := 16) (by simp) rfl
  refine ⟨H0, body_of (x := .ret) (e := [(6, .b true)]) (d := d5) (by rw [hF.F]; rfl) rfl ?_ (.inl rfl) rfl⟩
  rcases fn29 hF h a3 b3 with ⟨m, p29, p2, p3, p4⟩ | ⟨m, p29, p2, p3⟩
  · have c29 := fun K => PFn.call p29 (args := [.i .i64 (r : Int), .i .i64 (c : Int), .i .i64 (a : Int), .i .i64 (b : Int)]) (ks := []) (fs := []) (cs := []) (H := K) (by simp [snapArgs, sn_i])
    obtain ⟨z1, z2⟩ := steps_end (n := q + 1) h a3 b3 p2 p3
    by_cases hmq : q + 1 < m
    · have hgt : (q : Int) + 1 < (m : Int) := by omega
      rw [z1 hmq] at c26 c26' k1 g10 g16
      simp only [Int.natCast_zero] at c26 c26' k1 g10 g16
      generalize elI.lt false (nI (movesOf r c b)) = LL at *
      simp [d5, c5, zipE, go_nil, go_last, go_past, go_pastR, go_blkN, go_blkR, go_blkE, go_skip, go_exit, go_ret, go_scope, go_seq, go_reg, go_regd, go_opdN, go_opd, go_opdG, grdd_b, grdd_u, stpd_some, find_some, go_block, go_cond, cnd_b, go_opsN, go_ops, go_opsG, grd_b, grd_u, stp_some, fin_some, up_some, cont_some, k_call, k_mv, k_pick, k_bin, k_eqB, k_eqA, k_not, k_neg, k_conv, k_alloc, k_boxA, k_boxI, k_boxB, k_boxN, k_boxBs, k_ldR, k_ldA, k_ldI, k_ldB, k_stA, k_stI, k_stB, ldC_some, stC_some, k_mkfn, k_slc, k_slcA, k_ixA, k_ixBs, k_ixSl, k_fadr, k_fld, k_ext, k_len, k_app, k_mn, k_mx, k_nilck, k_build, k_bsl1, k_bsl2, b_add, b_sub, b_mul, b_eql, b_neq, b_lss, b_leq, b_gtr, b_geq, Dn.setLast, Dn.getLast, evalO, mapO, Dn.get, putE, keepE, TV.one, TV.isAgg, Dn.part, bx, x0, x1, x2, y0, y1, y2, c18, wn, a1, a2, a4, b1, b2, b4, un, q1, q2', q4, w1, c26, c26', c28, c29, go_denK (c := l5_1) rfl, k1, g0, g1, g7, g8, g9, g10, g16, c25, hgt]
    · have hgt : ¬ (q : Int) + 1 < (m : Int) := by omega
      have w2 : wrapR .i64 ((q : Int) + 1 - (m : Int)) = .i .i64 ((q + 1 - m : Nat) : Int) := by rw [show (q : Int) + 1 - (m : Int) = ((q + 1 - m : Nat) : Int) by omega]; exact wrapR_i64 (by omega)
      have n0 : ¬ (walks r c a (q + 1) b : Int) < 0 := by omega
      have rm0 := tmod_nat (q + 1 - m) 2
      simp only [Int.cast_ofNat_Int] at rm0
      by_cases hpar : (q + 1 - m) % 2 = 0
      · have rm : binI .rem (.i .i64 ((q + 1 - m : Nat) : Int)) (.i .i64 2) = some (.i .i64 0) := by rw [b_rem, if_neg (by decide), rm0, hpar]; rfl
        by_cases hm0 : m = 0
        · have hm0' : (m : Int) = 0 := by omega
          have hgt0 : ¬ (q : Int) + 1 < 0 := by omega
          have w3 : wrapR .i64 ((q : Int) + 1 - 0) = .i .i64 ((q : Int) + 1) := by rw [Int.sub_zero]; exact w1
          have rm' : binI .rem (.i .i64 ((q : Int) + 1)) (.i .i64 2) = some (.i .i64 0) := by rw [show (q : Int) + 1 = ((q + 1 - m : Nat) : Int) by omega]; exact rm
          generalize ((q + 1 - m : Nat) : Int) = DD at *
          generalize (walks r c a (q + 1) b : Int) = WW at *
          generalize elI.lt false (nI (movesOf r c b)) = LL at *
          by_cases hpos : 0 < WW
          · simp [d5, c5, zipE, go_nil, go_last, go_past, go_pastR, go_blkN, go_blkR, go_blkE, go_skip, go_exit, go_ret, go_scope, go_seq, go_reg, go_regd, go_opdN, go_opd, go_opdG, grdd_b, grdd_u, stpd_some, find_some, go_block, go_cond, cnd_b, go_opsN, go_ops, go_opsG, grd_b, grd_u, stp_some, fin_some, up_some, cont_some, k_call, k_mv, k_pick, k_bin, k_eqB, k_eqA, k_not, k_neg, k_conv, k_alloc, k_boxA, k_boxI, k_boxB, k_boxN, k_boxBs, k_ldR, k_ldA, k_ldI, k_ldB, k_stA, k_stI, k_stB, ldC_some, stC_some, k_mkfn, k_slc, k_slcA, k_ixA, k_ixBs, k_ixSl, k_fadr, k_fld, k_ext, k_len, k_app, k_mn, k_mx, k_nilck, k_build, k_bsl1, k_bsl2, b_add, b_sub, b_mul, b_eql, b_neq, b_lss, b_leq, b_gtr, b_geq, Dn.setLast, Dn.getLast, evalO, mapO, Dn.get, putE, keepE, TV.one, TV.isAgg, Dn.part, bx, x0, x1, x2, y0, y1, y2, c18, wn, a1, a2, a4, b1, b2, b4, un, q1, q2', q4, w1, c26, c26', c28, c29, go_denK (c := l5_1) rfl, k1, g0, g1, g7, g8, g9, g10, g16, c25, hgt, w2, rm, n0, hm0', hgt0, rm', w3, hpos]
          · simp [d5, c5, zipE, go_nil, go_last, go_past, go_pastR, go_blkN, go_blkR, go_blkE, go_skip, go_exit, go_ret, go_scope, go_seq, go_reg, go_regd, go_opdN, go_opd, go_opdG, grdd_b, grdd_u, stpd_some, find_some, go_block, go_cond, cnd_b, go_opsN, go_ops, go_opsG, grd_b, grd_u, stp_some, fin_some, up_some, cont_some, k_call, k_mv, k_pick, k_bin, k_eqB, k_eqA, k_not, k_neg, k_conv, k_alloc, k_boxA, k_boxI, k_boxB, k_boxN, k_boxBs, k_ldR, k_ldA, k_ldI, k_ldB, k_stA, k_stI, k_stB, ldC_some, stC_some, k_mkfn, k_slc, k_slcA, k_ixA, k_ixBs, k_ixSl, k_fadr, k_fld, k_ext, k_len, k_app, k_mn, k_mx, k_nilck, k_build, k_bsl1, k_bsl2, b_add, b_sub, b_mul, b_eql, b_neq, b_lss, b_leq, b_gtr, b_geq, Dn.setLast, Dn.getLast, evalO, mapO, Dn.get, putE, keepE, TV.one, TV.isAgg, Dn.part, bx, x0, x1, x2, y0, y1, y2, c18, wn, a1, a2, a4, b1, b2, b4, un, q1, q2', q4, w1, c26, c26', c28, c29, go_denK (c := l5_1) rfl, k1, g0, g1, g7, g8, g9, g10, g16, c25, hgt, w2, rm, n0, hm0', hgt0, rm', w3, hpos]
        · have hpos : (0 : Int) < (walks r c a (q + 1) b : Int) := by have := z2 (by omega) hpar hm0; omega
          generalize ((q + 1 - m : Nat) : Int) = DD at *
          generalize (walks r c a (q + 1) b : Int) = WW at *
          generalize elI.lt false (nI (movesOf r c b)) = LL at *
          simp [d5, c5, zipE, go_nil, go_last, go_past, go_pastR, go_blkN, go_blkR, go_blkE, go_skip, go_exit, go_ret, go_scope, go_seq, go_reg, go_regd, go_opdN, go_opd, go_opdG, grdd_b, grdd_u, stpd_some, find_some, go_block, go_cond, cnd_b, go_opsN, go_ops, go_opsG, grd_b, grd_u, stp_some, fin_some, up_some, cont_some, k_call, k_mv, k_pick, k_bin, k_eqB, k_eqA, k_not, k_neg, k_conv, k_alloc, k_boxA, k_boxI, k_boxB, k_boxN, k_boxBs, k_ldR, k_ldA, k_ldI, k_ldB, k_stA, k_stI, k_stB, ldC_some, stC_some, k_mkfn, k_slc, k_slcA, k_ixA, k_ixBs, k_ixSl, k_fadr, k_fld, k_ext, k_len, k_app, k_mn, k_mx, k_nilck, k_build, k_bsl1, k_bsl2, b_add, b_sub, b_mul, b_eql, b_neq, b_lss, b_leq, b_gtr, b_geq, Dn.setLast, Dn.getLast, evalO, mapO, Dn.get, putE, keepE, TV.one, TV.isAgg, Dn.part, bx, x0, x1, x2, y0, y1, y2, c18, wn, a1, a2, a4, b1, b2, b4, un, q1, q2', q4, w1, c26, c26', c28, c29, go_denK (c := l5_1) rfl, k1, g0, g1, g7, g8, g9, g10, g16, c25, hgt, w2, rm, n0, hpos]
      · have hpar1 : (q + 1 - m) % 2 = 1 := by omega
        have rm : binI .rem (.i .i64 ((q + 1 - m : Nat) : Int)) (.i .i64 2) = some (.i .i64 1) := by rw [b_rem, if_neg (by decide), rm0, hpar1]; rfl
        generalize ((q + 1 - m : Nat) : Int) = DD at *
        generalize (walks r c a (q + 1) b : Int) = WW at *
        generalize elI.lt false (nI (movesOf r c b)) = LL at *
        simp [d5, c5, zipE, go_nil, go_last, go_past, go_pastR, go_blkN, go_blkR, go_blkE, go_skip, go_exit, go_ret, go_scope, go_seq, go_reg, go_regd, go_opdN, go_opd, go_opdG, grdd_b, grdd_u, stpd_some, find_some, go_block, go_cond, cnd_b, go_opsN, go_ops, go_opsG, grd_b, grd_u, stp_some, fin_some, up_some, cont_some, k_call, k_mv, k_pick, k_bin, k_eqB, k_eqA, k_not, k_neg, k_conv, k_alloc, k_boxA, k_boxI, k_boxB, k_boxN, k_boxBs, k_ldR, k_ldA, k_ldI, k_ldB, k_stA, k_stI, k_stB, ldC_some, stC_some, k_mkfn, k_slc, k_slcA, k_ixA, k_ixBs, k_ixSl, k_fadr, k_fld, k_ext, k_len, k_app, k_mn, k_mx, k_nilck, k_build, k_bsl1, k_bsl2, b_add, b_sub, b_mul, b_eql, b_neq, b_lss, b_leq, b_gtr, b_geq, Dn.setLast, Dn.getLast, evalO, mapO, Dn.get, putE, keepE, TV.one, TV.isAgg, Dn.part, bx, x0, x1, x2, y0, y1, y2, c18, wn, a1, a2, a4, b1, b2, b4, un, q1, q2', q4, w1, c26, c26', c28, c29, go_denK (c := l5_1) rfl, k1, g0, g1, g7, g8, g9, g10, g16, c25, hgt, w2, rm, n0]
  · have hz := no_steps h a3 b3 p2 p3 (q + 1)
    have c29 := fun K => PFn.call p29 (args := [.i .i64 (r : Int), .i .i64 (c : Int), .i .i64 (a : Int), .i .i64 (b : Int)]) (ks := []) (fs := []) (cs := []) (H := K) (by simp [snapArgs, sn_i])
    rw [hz] at c26 c26' k1 g10 g16
    simp only [Int.natCast_zero] at c26 c26' k1 g10 g16
    generalize elI.lt false (nI (movesOf r c b)) = LL at *
    simp [d5, c5, zipE, go_nil, go_last, go_past, go_pastR, go_blkN, go_blkR, go_blkE, go_skip, go_exit, go_ret, go_scope, go_seq, go_reg, go_regd, go_opdN, go_opd, go_opdG, grdd_b, grdd_u, stpd_some, find_some, go_block, go_cond, cnd_b, go_opsN, go_ops, go_opsG, grd_b, grd_u, stp_some, fin_some, up_some, cont_some, k_call, k_mv, k_pick, k_bin, k_eqB, k_eqA, k_not, k_neg, k_conv, k_alloc, k_boxA, k_boxI, k_boxB, k_boxN, k_boxBs, k_ldR, k_ldA, k_ldI, k_ldB, k_stA, k_stI, k_stB, ldC_some, stC_some, k_mkfn, k_slc, k_slcA, k_ixA, k_ixBs, k_ixSl, k_fadr, k_fld, k_ext, k_len, k_app, k_mn, k_mx, k_nilck, k_build, k_bsl1, k_bsl2, b_add, b_sub, b_mul, b_eql, b_neq, b_lss, b_leq, b_gtr, b_geq, Dn.setLast, Dn.getLast, evalO, mapO, Dn.get, putE, keepE, TV.one, TV.isAgg, Dn.part, bx, x0, x1, x2, y0, y1, y2, c18, wn, a1, a2, a4, b1, b2, b4, un, q1, q2', q4, w1, c26, c26', c28, c29, go_denK (c := l5_1) rfl, k1, g0, g1, g7, g8, g9, g10, g16, c25]

end Go.Proofs.Tryd.Dn

