/-
  Dice: the same sums: the law run.
-/
import Derived.Test.YtijeefncmgjlpaaR11
set_option linter.unusedSimpArgs false
set_option linter.unusedVariables false

set_option maxHeartbeats 4000000
set_option maxRecDepth 100000
namespace Go.Proofs.Try.Dn
open Go.Dn

/-! ## the plain law -/

theorem wnF_comm (G : Int → Nat) (a b : List Int) : wnF (wnF G a) b = wnF (wnF G b) a := by
  funext j
  unfold wnF
  rw [sum_swp]
  refine congrArg List.sum (List.map_congr_left fun f _ => congrArg List.sum (List.map_congr_left fun g _ => ?_))
  rw [show j - g - f = j - f - g by omega]

theorem wn_perm {xs ys : List (List Int)} (h : xs.Perm ys) : wn xs = wn ys := by
  unfold wn
  exact h.foldl_eq' (fun a _ b _ z => wnF_comm z a b) _

theorem sumsL_wn {ls : List (List Int)} (hl : ls.length ≤ 6) (hD : ∀ d ∈ ls, DieL 60 d) (j w : Int) : (j, w) ∈ sumsL ls ↔ wn ls j ≠ 0 ∧ w = ((wn ls j : Nat) : Int) := by
  constructor
  · intro h
    have := sumsL_mem hl hD h
    exact ⟨this.2.2.2.1, this.2.2.1⟩
  · rintro ⟨h0, rfl⟩
    have hr := wn_range hD h0
    unfold sumsL sumsN
    rw [List.mem_filterMap]
    refine ⟨j.toNat, List.mem_range.2 (by omega), ?_⟩
    rw [show ((j.toNat : Nat) : Int) = j by omega, if_neg h0]

theorem sumsL_iff {xs ys : List (List Int)} (hx : xs.length ≤ 6) (hy : ys.length ≤ 6) (hX : ∀ d ∈ xs, DieL 60 d) (hY : ∀ d ∈ ys, DieL 60 d) : sumsL xs = sumsL ys ↔ wn xs = wn ys := by
  constructor
  · intro h
    funext j
    by_cases h0 : wn xs j = 0
    · by_cases h1 : wn ys j = 0
      · rw [h0, h1]
      · have := (sumsL_wn hy hY j _).2 ⟨h1, rfl⟩
        rw [← h] at this
        exact absurd h0 ((sumsL_wn hx hX j _).1 this).1
    · have := (sumsL_wn hx hX j _).2 ⟨h0, rfl⟩
      rw [h] at this
      have := ((sumsL_wn hy hY j _).1 this).2
      omega
  · intro h
    unfold sumsL sumsN
    rw [h]

theorem wn_top : ∀ (n : Nat) {ls : List (List Int)}, ls.length = n → (∀ d ∈ ls, DieL 60 d) → wn ls ((mxS ls : Int) - 1) ≠ 0
  | 0, ls, hn, _ => by
    obtain rfl : ls = [] := List.eq_nil_of_length_eq_zero hn
    decide
  | n + 1, ls, hn, hD => by
    have hne : ls ≠ [] := by intro e; rw [e] at hn; simp at hn
    obtain ⟨zs, d, rfl⟩ : ∃ zs d, ls = zs ++ [d] := ⟨ls.dropLast, ls.getLast hne, (List.dropLast_concat_getLast hne).symm⟩
    have ih := wn_top n (ls := zs) (by simpa using hn) fun x hx => hD x (List.mem_append_left _ hx)
    obtain ⟨z, h1, h2, h3, h4, -⟩ := die_last (hD d (List.mem_append_right _ (List.mem_singleton_self _)))
    rw [wn_snoc, wnF_ne]
    refine ⟨z, List.mem_of_getElem? h1, ?_⟩
    rw [mxS_snoc, h2, show (((mxS zs + z.toNat : Nat) : Int) - 1 - z) = (mxS zs : Int) - 1 by omega]
    exact ih

theorem refW_iff {xs ys : List (List Int)} (hX : ∀ d ∈ xs, DieL 60 d) (hY : ∀ d ∈ ys, DieL 60 d) : refW xs = refW ys ↔ wn xs = wn ys := by
  have key : ∀ {xs : List (List Int)}, (∀ d ∈ xs, DieL 60 d) → ∀ j, wn xs j ≠ 0 → 0 ≤ j ∧ j < (mxS xs : Int) := fun {xs} hX j hj => by
    have := wn_mx hX xs.length (Nat.le_refl _) j (by rw [List.take_length]; exact hj)
    rw [List.take_length] at this
    exact this
  constructor
  · intro h
    have hm : mxS xs = mxS ys := by have := congrArg List.length h; unfold refW at this; rwa [gL_len, gL_len] at this
    funext j
    by_cases hj : 0 ≤ j ∧ j < (mxS xs : Int)
    · have h1 : (refW xs)[j.toNat]? = some ((wn xs ((j.toNat : Nat) : Int) : Nat) : Int) := gL_at (by omega)
      have h2 : (refW ys)[j.toNat]? = some ((wn ys ((j.toNat : Nat) : Int) : Nat) : Int) := gL_at (by omega)
      rw [h, h2, show ((j.toNat : Nat) : Int) = j by omega] at h1
      have := Option.some.inj h1
      omega
    · rw [Classical.byContradiction fun h0 : ¬ wn xs j = 0 => hj (key hX j h0), Classical.byContradiction fun h0 : ¬ wn ys j = 0 => hj (by rw [hm]; exact key hY j h0)]
  · intro h
    have hm : mxS xs = mxS ys := by
      have h1 := wn_top _ rfl hX
      have h2 := wn_top _ rfl hY
      rw [h] at h1
      rw [← h] at h2
      have := key hY _ h1
      have := key hX _ h2
      omega
    unfold refW
    rw [h, hm]

/-! ## the walk -/

theorem eqA2n {pg : Pg} {x y : Int × Int} (h : x ≠ y) (H : Heap) : dkc pg (den pg) (.eqA true [true, true]) [.agg [.i .i64 x.1, .i .i64 x.2], .agg [.i .i64 y.1, .i .i64 y.2]] H = some (.b true, H) := by
  rw [k_eqA]
  by_cases h1 : x.1 = y.1
  · have h2 : ¬ x.2 = y.2 := fun h2 => h (Prod.ext h1 h2)
    simp [eqL, eqS, up, negb, h1, h2]
  · simp [eqL, eqS, up, negb, h1]

theorem lnEb {α : Type} (E : El α) (b : Bool) (l : List α) (K : Heap) : (lenK 0 (E.lt b l) K).map (fun (n : Nat) => TV.i .i64 (n : Int)) = some (.i .i64 (l.length : Int)) := by
  rw [(ltV E b K l).lenK]; rfl

theorem ixQb {pg : Pg} {H : Heap} {b : Bool} {l : List (Int × Int)} {i : Nat} {x : Int × Int} (hx : l[i]? = some x) : ∃ p, dkc pg (den pg) (.ixS 2 true) [elQ.lt b l, .i .i64 (i : Int)] H = some (p, H) ∧ dkc pg (den pg) (.ld 2 true) [p] H = some (.agg [.i .i64 x.1, .i .i64 x.2], H) := by
  obtain ⟨p, h1, h2, _⟩ := (ltV elQ b H l).ix (pg := pg) (R := den pg) hx .i64
  exact ⟨p, h1, h2.ld⟩

theorem take_step {α : Type} {a b : List α} {k : Nat} {x : α} (h : a.take k = b.take k) (ha : a[k]? = some x) (hb : b[k]? = some x) : a.take (k + 1) = b.take (k + 1) := by
  rw [List.take_add_one, List.take_add_one, h, ha, hb]

theorem l71_1_all {pg : Pg} {a b : List (Int × Int)} (hn : a.length = b.length) (h6 : a.length ≤ 1000000) : ∀ (r k : Nat), k + r = a.length → a.take k = b.take k →
    (a = b → ∃ e, den pg l71_1 [(0, elQ.lt true a), (1, elQ.lt true b), (12, .i .i64 (a.length : Int)), (13, .i .i64 (k : Int))] [] = some ⟨.exit 0, e, []⟩) ∧
    (a ≠ b → den pg l71_1 [(0, elQ.lt true a), (1, elQ.lt true b), (12, .i .i64 (a.length : Int)), (13, .i .i64 (k : Int))] [] = some ⟨.ret, [(4, .b false)], []⟩)
  | 0, k, hk, ht => by
    obtain rfl : k = a.length := by omega
    rw [List.take_length, hn, List.take_length] at ht
    refine ⟨fun _ => ⟨[(0, elQ.lt true a), (1, elQ.lt true b), (12, .i .i64 (a.length : Int)), (13, .i .i64 (a.length : Int)), (14, .b false)], ?_⟩, fun h => absurd ht h⟩
    generalize elQ.lt true a = A at *
    generalize elQ.lt true b = B at *
    generalize (a.length : Int) = M at *
    rw [l71_1, den_loop]
    simp (disch := omega) [b71_0, go_nil, go_last, go_past, go_pastR, go_blkN, go_blkR, go_blkE, go_skip, go_exit, go_ret, go_scope, go_seq, go_reg, go_regd, go_opdN, go_opd, go_opdG, grdd_b, grdd_u, stpd_some, find_some, go_block, go_cond, cnd_b, go_opsN, go_ops, go_opsG, grd_b, grd_u, stp_some, fin_some, up_some, cont_some, k_call, k_mv, k_pick, k_bin, k_eqB, k_eqA, k_not, k_neg, k_conv, k_alloc, k_boxA, k_boxI, k_boxB, k_boxN, k_boxBs, k_ldR, k_ldA, k_ldI, k_ldB, k_stA, k_stI, k_stB, ldC_some, stC_some, k_mkfn, k_slc, k_slcA, k_ixA, k_ixBs, k_ixSl, k_fadr, k_fld, k_ext, k_len, k_app, k_mn, k_mx, k_nilck, k_build, k_bsl1, k_bsl2, b_add, b_sub, b_mul, b_eql, b_neq, b_lss, b_leq, b_gtr, b_geq, Dn.setLast, Dn.getLast, evalO, mapO, Dn.get, putE, keepE_nil, keepE_cons, kp_some, kp_none, TV.one, TV.isAgg, Dn.part, k_boxR, negb, at0, at1, at2, at3, at4, dT, dF, wrapR_i64, Option.bind_some, Option.map_some]
  | r + 1, k, hk, ht => by
    obtain ⟨x, hx⟩ : ∃ x, a[k]? = some x := ⟨_, List.getElem?_eq_getElem (by omega)⟩
    obtain ⟨y, hy⟩ : ∃ y, b[k]? = some y := ⟨_, List.getElem?_eq_getElem (by omega)⟩
    obtain ⟨p, p1, p2⟩ := ixQb (pg := pg) (H := []) (b := true) hx
    obtain ⟨q, q1, q2⟩ := ixQb (pg := pg) (H := []) (b := true) hy
    have w2 : wrapR .i64 ((k : Int) + 1) = .i .i64 ((k + 1 : Nat) : Int) := by rw [← Int.natCast_succ]; exact wrapR_i64 (by omega)
    have dd : decide ((k : Int) < (a.length : Int)) = true := dT (by omega)
    by_cases he : x = y
    · subst he
      have ih := l71_1_all (pg := pg) hn h6 r (k + 1) (by omega) (take_step ht hx hy)
      have eq := eqA2 (pg := pg) x.1 x.2 []
      have st : den pg l71_1 [(0, elQ.lt true a), (1, elQ.lt true b), (12, .i .i64 (a.length : Int)), (13, .i .i64 (k : Int))] [] = den pg l71_1 [(0, elQ.lt true a), (1, elQ.lt true b), (12, .i .i64 (a.length : Int)), (13, .i .i64 ((k + 1 : Nat) : Int))] [] := by
        clear ih ht hn
        generalize elQ.lt true a = A at *
        generalize elQ.lt true b = B at *
        generalize (a.length : Int) = M at *
        generalize TV.agg [.i .i64 x.1, .i .i64 x.2] = V at *
        generalize ((k + 1 : Nat) : Int) = K2 at *
        generalize (k : Int) = K at *
        conv => lhs; rw [l71_1, den_loop]
        simp (disch := omega) [l71_1, b71_0, go_nil, go_last, go_past, go_pastR, go_blkN, go_blkR, go_blkE, go_skip, go_exit, go_ret, go_scope, go_seq, go_reg, go_regd, go_opdN, go_opd, go_opdG, grdd_b, grdd_u, stpd_some, find_some, go_block, go_cond, cnd_b, go_opsN, go_ops, go_opsG, grd_b, grd_u, stp_some, fin_some, up_some, cont_some, k_call, k_mv, k_pick, k_bin, k_eqB, k_eqA, k_not, k_neg, k_conv, k_alloc, k_boxA, k_boxI, k_boxB, k_boxN, k_boxBs, k_ldR, k_ldA, k_ldI, k_ldB, k_stA, k_stI, k_stB, ldC_some, stC_some, k_mkfn, k_slc, k_slcA, k_ixA, k_ixBs, k_ixSl, k_fadr, k_fld, k_ext, k_len, k_app, k_mn, k_mx, k_nilck, k_build, k_bsl1, k_bsl2, b_add, b_sub, b_mul, b_eql, b_neq, b_lss, b_leq, b_gtr, b_geq, Dn.setLast, Dn.getLast, evalO, mapO, Dn.get, putE, keepE_nil, keepE_cons, kp_some, kp_none, TV.one, TV.isAgg, Dn.part, k_boxR, negb, at0, at1, at2, at3, at4, dT, dF, wrapR_i64, Option.bind_some, Option.map_some, dd, p1, p2, q1, q2, eq, w2]
      exact ⟨fun h => by rw [st]; exact ih.1 h, fun h => by rw [st]; exact ih.2 h⟩
    · have eq := eqA2n (pg := pg) he []
      refine ⟨fun h => ?_, fun h => ?_⟩
      · rw [h, hy] at hx
        exact absurd (Option.some.inj hx).symm he
      · clear ht hn h hx hy he
        generalize elQ.lt true a = A at *
        generalize elQ.lt true b = B at *
        generalize (a.length : Int) = M at *
        generalize TV.agg [.i .i64 x.1, .i .i64 x.2] = V at *
        generalize TV.agg [.i .i64 y.1, .i .i64 y.2] = U at *
        generalize (k : Int) = K at *
        rw [l71_1, den_loop]
        simp (disch := omega) [l71_1, b71_0, go_nil, go_last, go_past, go_pastR, go_blkN, go_blkR, go_blkE, go_skip, go_exit, go_ret, go_scope, go_seq, go_reg, go_regd, go_opdN, go_opd, go_opdG, grdd_b, grdd_u, stpd_some, find_some, go_block, go_cond, cnd_b, go_opsN, go_ops, go_opsG, grd_b, grd_u, stp_some, fin_some, up_some, cont_some, k_call, k_mv, k_pick, k_bin, k_eqB, k_eqA, k_not, k_neg, k_conv, k_alloc, k_boxA, k_boxI, k_boxB, k_boxN, k_boxBs, k_ldR, k_ldA, k_ldI, k_ldB, k_stA, k_stI, k_stB, ldC_some, stC_some, k_mkfn, k_slc, k_slcA, k_ixA, k_ixBs, k_ixSl, k_fadr, k_fld, k_ext, k_len, k_app, k_mn, k_mx, k_nilck, k_build, k_bsl1, k_bsl2, b_add, b_sub, b_mul, b_eql, b_neq, b_lss, b_leq, b_gtr, b_geq, Dn.setLast, Dn.getLast, evalO, mapO, Dn.get, putE, keepE_nil, keepE_cons, kp_some, kp_none, TV.one, TV.isAgg, Dn.part, k_boxR, negb, at0, at1, at2, at3, at4, dT, dF, wrapR_i64, Option.bind_some, Option.map_some, dd, p1, p2, q1, q2, eq]

theorem fn71 {pg : Pg} (hF : Free pg) (a b : List (Int × Int)) (ha : a.length ≤ 1000000) (hb : b.length ≤ 1000000) : PFn pg 71 [elQ.lt true a, elQ.lt true b] (.b (decide (a = b))) := by
  refine .of1 (x := .ret) (e := [(4, .b (decide (a = b)))]) (H' := []) (hF.S _ _) (d := d71) (by rw [hF.F]; rfl) rfl ?_ (.inl rfl) rfl (by simp [sn_i, sn_b, sn_nil, sn8_i, sn8_b, sn8_nil, sn7_i, sn7_b, sn_sl, sn8_sl, slB_some, sn_tup, sn_agg, sn8_agg, mapO, elems])
  have l1 := lnEb elQ true a
  have l2 := lnEb elQ true b
  by_cases hn : a.length = b.length
  · obtain ⟨r1, r2⟩ := l71_1_all (pg := pg) hn ha a.length 0 (by omega) rfl
    rw [← hn] at l2
    simp only [Int.natCast_zero] at r1 r2
    by_cases he : a = b
    · obtain ⟨e, r⟩ := r1 he
      rw [decide_eq_true he]
      clear r1 r2 hn he
      generalize elQ.lt true a = A at *
      generalize elQ.lt true b = B at *
      generalize (a.length : Int) = M at *
      simp (disch := omega) [d71, c71, zipE, go_nil, go_last, go_past, go_pastR, go_blkN, go_blkR, go_blkE, go_skip, go_exit, go_ret, go_scope, go_seq, go_reg, go_regd, go_opdN, go_opd, go_opdG, grdd_b, grdd_u, stpd_some, find_some, go_block, go_cond, cnd_b, go_opsN, go_ops, go_opsG, grd_b, grd_u, stp_some, fin_some, up_some, cont_some, k_call, k_mv, k_pick, k_bin, k_eqB, k_eqA, k_not, k_neg, k_conv, k_alloc, k_boxA, k_boxI, k_boxB, k_boxN, k_boxBs, k_ldR, k_ldA, k_ldI, k_ldB, k_stA, k_stI, k_stB, ldC_some, stC_some, k_mkfn, k_slc, k_slcA, k_ixA, k_ixBs, k_ixSl, k_fadr, k_fld, k_ext, k_len, k_app, k_mn, k_mx, k_nilck, k_build, k_bsl1, k_bsl2, b_add, b_sub, b_mul, b_eql, b_neq, b_lss, b_leq, b_gtr, b_geq, Dn.setLast, Dn.getLast, evalO, mapO, Dn.get, putE, keepE_nil, keepE_cons, kp_some, kp_none, TV.one, TV.isAgg, Dn.part, k_boxR, negb, at0, at1, at2, at3, at4, dT, dF, wrapR_i64, Option.bind_some, Option.map_some, l1, l2, go_denK (c := l71_1) rfl, r]
    · have r := r2 he
      rw [decide_eq_false he]
      clear r1 r2 hn he
      generalize elQ.lt true a = A at *
      generalize elQ.lt true b = B at *
      generalize (a.length : Int) = M at *
      simp (disch := omega) [d71, c71, zipE, go_nil, go_last, go_past, go_pastR, go_blkN, go_blkR, go_blkE, go_skip, go_exit, go_ret, go_scope, go_seq, go_reg, go_regd, go_opdN, go_opd, go_opdG, grdd_b, grdd_u, stpd_some, find_some, go_block, go_cond, cnd_b, go_opsN, go_ops, go_opsG, grd_b, grd_u, stp_some, fin_some, up_some, cont_some, k_call, k_mv, k_pick, k_bin, k_eqB, k_eqA, k_not, k_neg, k_conv, k_alloc, k_boxA, k_boxI, k_boxB, k_boxN, k_boxBs, k_ldR, k_ldA, k_ldI, k_ldB, k_stA, k_stI, k_stB, ldC_some, stC_some, k_mkfn, k_slc, k_slcA, k_ixA, k_ixBs, k_ixSl, k_fadr, k_fld, k_ext, k_len, k_app, k_mn, k_mx, k_nilck, k_build, k_bsl1, k_bsl2, b_add, b_sub, b_mul, b_eql, b_neq, b_lss, b_leq, b_gtr, b_geq, Dn.setLast, Dn.getLast, evalO, mapO, Dn.get, putE, keepE_nil, keepE_cons, kp_some, kp_none, TV.one, TV.isAgg, Dn.part, k_boxR, negb, at0, at1, at2, at3, at4, dT, dF, wrapR_i64, Option.bind_some, Option.map_some, l1, l2, go_denK (c := l71_1) rfl, r]
  · have he : a ≠ b := fun h => hn (congrArg List.length h)
    rw [decide_eq_false he]
    have hn' : ¬ (a.length : Int) = (b.length : Int) := by omega
    clear hn he
    generalize elQ.lt true a = A at *
    generalize elQ.lt true b = B at *
    generalize (a.length : Int) = M at *
    generalize (b.length : Int) = N at *
    simp (disch := omega) [d71, c71, zipE, go_nil, go_last, go_past, go_pastR, go_blkN, go_blkR, go_blkE, go_skip, go_exit, go_ret, go_scope, go_seq, go_reg, go_regd, go_opdN, go_opd, go_opdG, grdd_b, grdd_u, stpd_some, find_some, go_block, go_cond, cnd_b, go_opsN, go_ops, go_opsG, grd_b, grd_u, stp_some, fin_some, up_some, cont_some, k_call, k_mv, k_pick, k_bin, k_eqB, k_eqA, k_not, k_neg, k_conv, k_alloc, k_boxA, k_boxI, k_boxB, k_boxN, k_boxBs, k_ldR, k_ldA, k_ldI, k_ldB, k_stA, k_stI, k_stB, ldC_some, stC_some, k_mkfn, k_slc, k_slcA, k_ixA, k_ixBs, k_ixSl, k_fadr, k_fld, k_ext, k_len, k_app, k_mn, k_mx, k_nilck, k_build, k_bsl1, k_bsl2, b_add, b_sub, b_mul, b_eql, b_neq, b_lss, b_leq, b_gtr, b_geq, Dn.setLast, Dn.getLast, evalO, mapO, Dn.get, putE, keepE_nil, keepE_cons, kp_some, kp_none, TV.one, TV.isAgg, Dn.part, k_boxR, negb, at0, at1, at2, at3, at4, dT, dF, wrapR_i64, Option.bind_some, Option.map_some, l1, l2, hn']

theorem l50_1_all {pg : Pg} {a b : List Int} (hn : a.length = b.length) (h6 : a.length ≤ 1000000) : ∀ (r k : Nat), k + r = a.length → a.take k = b.take k →
    (a = b → ∃ e, den pg l50_1 [(0, elI.lt true a), (1, elI.lt true b), (5, .i .i64 (k : Int))] [] = some ⟨.exit 0, e, []⟩) ∧
    (a ≠ b → den pg l50_1 [(0, elI.lt true a), (1, elI.lt true b), (5, .i .i64 (k : Int))] [] = some ⟨.ret, [(4, .b false)], []⟩)
  | 0, k, hk, ht => by
    obtain rfl : k = a.length := by omega
    rw [List.take_length, hn, List.take_length] at ht
    have l1 := lnEb elI true a
    refine ⟨fun _ => ⟨[(0, elI.lt true a), (1, elI.lt true b), (5, .i .i64 (a.length : Int)), (14, .b false)], ?_⟩, fun h => absurd ht h⟩
    generalize elI.lt true a = A at *
    generalize elI.lt true b = B at *
    generalize (a.length : Int) = M at *
    rw [l50_1, den_loop]
    simp (disch := omega) [b50_0, go_nil, go_last, go_past, go_pastR, go_blkN, go_blkR, go_blkE, go_skip, go_exit, go_ret, go_scope, go_seq, go_reg, go_regd, go_opdN, go_opd, go_opdG, grdd_b, grdd_u, stpd_some, find_some, go_block, go_cond, cnd_b, go_opsN, go_ops, go_opsG, grd_b, grd_u, stp_some, fin_some, up_some, cont_some, k_call, k_mv, k_pick, k_bin, k_eqB, k_eqA, k_not, k_neg, k_conv, k_alloc, k_boxA, k_boxI, k_boxB, k_boxN, k_boxBs, k_ldR, k_ldA, k_ldI, k_ldB, k_stA, k_stI, k_stB, ldC_some, stC_some, k_mkfn, k_slc, k_slcA, k_ixA, k_ixBs, k_ixSl, k_fadr, k_fld, k_ext, k_len, k_app, k_mn, k_mx, k_nilck, k_build, k_bsl1, k_bsl2, b_add, b_sub, b_mul, b_eql, b_neq, b_lss, b_leq, b_gtr, b_geq, Dn.setLast, Dn.getLast, evalO, mapO, Dn.get, putE, keepE_nil, keepE_cons, kp_some, kp_none, TV.one, TV.isAgg, Dn.part, k_boxR, negb, at0, at1, at2, at3, at4, dT, dF, wrapR_i64, Option.bind_some, Option.map_some, l1]
  | r + 1, k, hk, ht => by
    have l1 := lnEb elI true a
    obtain ⟨x, hx⟩ : ∃ x, a[k]? = some x := ⟨_, List.getElem?_eq_getElem (by omega)⟩
    obtain ⟨y, hy⟩ : ∃ y, b[k]? = some y := ⟨_, List.getElem?_eq_getElem (by omega)⟩
    obtain ⟨p, p1, p2⟩ := ixI (pg := pg) (R := den pg) (ltV elI true [] a) hx
    obtain ⟨q, q1, q2⟩ := ixI (pg := pg) (R := den pg) (ltV elI true [] b) hy
    have w2 : wrapR .i64 ((k : Int) + 1) = .i .i64 ((k + 1 : Nat) : Int) := by rw [← Int.natCast_succ]; exact wrapR_i64 (by omega)
    have dd : decide ((k : Int) < (a.length : Int)) = true := dT (by omega)
    by_cases he : x = y
    · subst he
      have ih := l50_1_all (pg := pg) hn h6 r (k + 1) (by omega) (take_step ht hx hy)
      have st : den pg l50_1 [(0, elI.lt true a), (1, elI.lt true b), (5, .i .i64 (k : Int))] [] = den pg l50_1 [(0, elI.lt true a), (1, elI.lt true b), (5, .i .i64 ((k + 1 : Nat) : Int))] [] := by
        clear ih ht hn
        generalize elI.lt true a = A at *
        generalize elI.lt true b = B at *
        generalize (a.length : Int) = M at *
        generalize ((k + 1 : Nat) : Int) = K2 at *
        generalize (k : Int) = K at *
        conv => lhs; rw [l50_1, den_loop]
        simp (disch := omega) [l50_1, b50_0, go_nil, go_last, go_past, go_pastR, go_blkN, go_blkR, go_blkE, go_skip, go_exit, go_ret, go_scope, go_seq, go_reg, go_regd, go_opdN, go_opd, go_opdG, grdd_b, grdd_u, stpd_some, find_some, go_block, go_cond, cnd_b, go_opsN, go_ops, go_opsG, grd_b, grd_u, stp_some, fin_some, up_some, cont_some, k_call, k_mv, k_pick, k_bin, k_eqB, k_eqA, k_not, k_neg, k_conv, k_alloc, k_boxA, k_boxI, k_boxB, k_boxN, k_boxBs, k_ldR, k_ldA, k_ldI, k_ldB, k_stA, k_stI, k_stB, ldC_some, stC_some, k_mkfn, k_slc, k_slcA, k_ixA, k_ixBs, k_ixSl, k_fadr, k_fld, k_ext, k_len, k_app, k_mn, k_mx, k_nilck, k_build, k_bsl1, k_bsl2, b_add, b_sub, b_mul, b_eql, b_neq, b_lss, b_leq, b_gtr, b_geq, Dn.setLast, Dn.getLast, evalO, mapO, Dn.get, putE, keepE_nil, keepE_cons, kp_some, kp_none, TV.one, TV.isAgg, Dn.part, k_boxR, negb, at0, at1, at2, at3, at4, dT, dF, wrapR_i64, Option.bind_some, Option.map_some, l1, dd, p1, p2, q1, q2, w2]
      exact ⟨fun h => by rw [st]; exact ih.1 h, fun h => by rw [st]; exact ih.2 h⟩
    · refine ⟨fun h => ?_, fun h => ?_⟩
      · rw [h, hy] at hx
        exact absurd (Option.some.inj hx).symm he
      · clear ht hn h hx hy
        generalize elI.lt true a = A at *
        generalize elI.lt true b = B at *
        generalize (a.length : Int) = M at *
        generalize (k : Int) = K at *
        rw [l50_1, den_loop]
        simp (disch := omega) [l50_1, b50_0, go_nil, go_last, go_past, go_pastR, go_blkN, go_blkR, go_blkE, go_skip, go_exit, go_ret, go_scope, go_seq, go_reg, go_regd, go_opdN, go_opd, go_opdG, grdd_b, grdd_u, stpd_some, find_some, go_block, go_cond, cnd_b, go_opsN, go_ops, go_opsG, grd_b, grd_u, stp_some, fin_some, up_some, cont_some, k_call, k_mv, k_pick, k_bin, k_eqB, k_eqA, k_not, k_neg, k_conv, k_alloc, k_boxA, k_boxI, k_boxB, k_boxN, k_boxBs, k_ldR, k_ldA, k_ldI, k_ldB, k_stA, k_stI, k_stB, ldC_some, stC_some, k_mkfn, k_slc, k_slcA, k_ixA, k_ixBs, k_ixSl, k_fadr, k_fld, k_ext, k_len, k_app, k_mn, k_mx, k_nilck, k_build, k_bsl1, k_bsl2, b_add, b_sub, b_mul, b_eql, b_neq, b_lss, b_leq, b_gtr, b_geq, Dn.setLast, Dn.getLast, evalO, mapO, Dn.get, putE, keepE_nil, keepE_cons, kp_some, kp_none, TV.one, TV.isAgg, Dn.part, k_boxR, negb, at0, at1, at2, at3, at4, dT, dF, wrapR_i64, Option.bind_some, Option.map_some, l1, dd, p1, p2, q1, q2, he]

theorem fn50 {pg : Pg} (hF : Free pg) (a b : List Int) (ha : a.length ≤ 1000000) (hb : b.length ≤ 1000000) : PFn pg 50 [elI.lt true a, elI.lt true b] (.b (decide (a = b))) := by
  refine .of1 (x := .ret) (e := [(4, .b (decide (a = b)))]) (H' := []) (hF.S _ _) (d := d50) (by rw [hF.F]; rfl) rfl ?_ (.inl rfl) rfl (by simp [sn_i, sn_b, sn_nil, sn8_i, sn8_b, sn8_nil, sn7_i, sn7_b, sn_sl, sn8_sl, slB_some, sn_tup, sn_agg, sn8_agg, mapO, elems])
  have l1 := lnEb elI true a
  have l2 := lnEb elI true b
  by_cases hn : a.length = b.length
  · obtain ⟨r1, r2⟩ := l50_1_all (pg := pg) hn ha a.length 0 (by omega) rfl
    rw [← hn] at l2
    simp only [Int.natCast_zero] at r1 r2
    by_cases he : a = b
    · obtain ⟨e, r⟩ := r1 he
      rw [decide_eq_true he]
      clear r1 r2 hn he
      generalize elI.lt true a = A at *
      generalize elI.lt true b = B at *
      generalize (a.length : Int) = M at *
      simp (disch := omega) [d50, c50, zipE, go_nil, go_last, go_past, go_pastR, go_blkN, go_blkR, go_blkE, go_skip, go_exit, go_ret, go_scope, go_seq, go_reg, go_regd, go_opdN, go_opd, go_opdG, grdd_b, grdd_u, stpd_some, find_some, go_block, go_cond, cnd_b, go_opsN, go_ops, go_opsG, grd_b, grd_u, stp_some, fin_some, up_some, cont_some, k_call, k_mv, k_pick, k_bin, k_eqB, k_eqA, k_not, k_neg, k_conv, k_alloc, k_boxA, k_boxI, k_boxB, k_boxN, k_boxBs, k_ldR, k_ldA, k_ldI, k_ldB, k_stA, k_stI, k_stB, ldC_some, stC_some, k_mkfn, k_slc, k_slcA, k_ixA, k_ixBs, k_ixSl, k_fadr, k_fld, k_ext, k_len, k_app, k_mn, k_mx, k_nilck, k_build, k_bsl1, k_bsl2, b_add, b_sub, b_mul, b_eql, b_neq, b_lss, b_leq, b_gtr, b_geq, Dn.setLast, Dn.getLast, evalO, mapO, Dn.get, putE, keepE_nil, keepE_cons, kp_some, kp_none, TV.one, TV.isAgg, Dn.part, k_boxR, negb, at0, at1, at2, at3, at4, dT, dF, wrapR_i64, Option.bind_some, Option.map_some, l1, l2, go_denK (c := l50_1) rfl, r]
    · have r := r2 he
      rw [decide_eq_false he]
      clear r1 r2 hn he
      generalize elI.lt true a = A at *
      generalize elI.lt true b = B at *
      generalize (a.length : Int) = M at *
      simp (disch := omega) [d50, c50, zipE, go_nil, go_last, go_past, go_pastR, go_blkN, go_blkR, go_blkE, go_skip, go_exit, go_ret, go_scope, go_seq, go_reg, go_regd, go_opdN, go_opd, go_opdG, grdd_b, grdd_u, stpd_some, find_some, go_block, go_cond, cnd_b, go_opsN, go_ops, go_opsG, grd_b, grd_u, stp_some, fin_some, up_some, cont_some, k_call, k_mv, k_pick, k_bin, k_eqB, k_eqA, k_not, k_neg, k_conv, k_alloc, k_boxA, k_boxI, k_boxB, k_boxN, k_boxBs, k_ldR, k_ldA, k_ldI, k_ldB, k_stA, k_stI, k_stB, ldC_some, stC_some, k_mkfn, k_slc, k_slcA, k_ixA, k_ixBs, k_ixSl, k_fadr, k_fld, k_ext, k_len, k_app, k_mn, k_mx, k_nilck, k_build, k_bsl1, k_bsl2, b_add, b_sub, b_mul, b_eql, b_neq, b_lss, b_leq, b_gtr, b_geq, Dn.setLast, Dn.getLast, evalO, mapO, Dn.get, putE, keepE_nil, keepE_cons, kp_some, kp_none, TV.one, TV.isAgg, Dn.part, k_boxR, negb, at0, at1, at2, at3, at4, dT, dF, wrapR_i64, Option.bind_some, Option.map_some, l1, l2, go_denK (c := l50_1) rfl, r]
  · have he : a ≠ b := fun h => hn (congrArg List.length h)
    rw [decide_eq_false he]
    have hn' : ¬ (a.length : Int) = (b.length : Int) := by omega
    clear hn he
    generalize elI.lt true a = A at *
    generalize elI.lt true b = B at *
    generalize (a.length : Int) = M at *
    generalize (b.length : Int) = N at *
    simp (disch := omega) [d50, c50, zipE, go_nil, go_last, go_past, go_pastR, go_blkN, go_blkR, go_blkE, go_skip, go_exit, go_ret, go_scope, go_seq, go_reg, go_regd, go_opdN, go_opd, go_opdG, grdd_b, grdd_u, stpd_some, find_some, go_block, go_cond, cnd_b, go_opsN, go_ops, go_opsG, grd_b, grd_u, stp_some, fin_some, up_some, cont_some, k_call, k_mv, k_pick, k_bin, k_eqB, k_eqA, k_not, k_neg, k_conv, k_alloc, k_boxA, k_boxI, k_boxB, k_boxN, k_boxBs, k_ldR, k_ldA, k_ldI, k_ldB, k_stA, k_stI, k_stB, ldC_some, stC_some, k_mkfn, k_slc, k_slcA, k_ixA, k_ixBs, k_ixSl, k_fadr, k_fld, k_ext, k_len, k_app, k_mn, k_mx, k_nilck, k_build, k_bsl1, k_bsl2, b_add, b_sub, b_mul, b_eql, b_neq, b_lss, b_leq, b_gtr, b_geq, Dn.setLast, Dn.getLast, evalO, mapO, Dn.get, putE, keepE_nil, keepE_cons, kp_some, kp_none, TV.one, TV.isAgg, Dn.part, k_boxR, negb, at0, at1, at2, at3, at4, dT, dF, wrapR_i64, Option.bind_some, Option.map_some, l1, l2, hn']

theorem fn49 {pg : Pg} (hF : Free pg) (hQ96 : pg.Q 96 = some 2) {S T : TV} {ms ls : List (List Int)} (hS : SSV S ms) (hT : SSV T ls) (h0 : chkD ls = 0) (h1 : chkD ms = 0) : PFn pg 49 [S, T] (.tup [.b (decide (sumsL ms = sumsL ls)), .i .i64 0]) := by
  have rl := row_chk h0
  have rm := row_chk h1
  have hTc : T.cells = [T] := by rcases hT with ⟨rfl, _⟩ | ⟨b, es, rfl, _⟩ <;> rfl
  have hSc : S.cells = [S] := by rcases hS with ⟨rfl, _⟩ | ⟨b, es, rfl, _⟩ <;> rfl
  obtain ⟨H1, hH1⟩ : ∃ H1, H1 = ([.cells [S, T] false] : Heap) := ⟨_, rfl⟩
  have bs : dkc pg (den pg) (.bsl false [.nilsl] false 2 [0, 1]) [S, T] [] = some (.sl 0 0 1 false 2 (some 2), H1) := by
    rw [hH1]; simp [dkc, dk, fillP, repl, put2, hT.one, hS.one, hTc, hSc]
  have ix : dkc pg (den pg) (.ixS 1 false) [.sl 0 0 1 false 2 (some 2), .i .i64 0] H1 = some (.ref 0 0, H1) := by simp [dkc, dk, bound]
  have ix2 : dkc pg (den pg) (.ixS 1 false) [.sl 0 0 1 false 2 (some 2), .i .i64 1] H1 = some (.ref 0 1, H1) := by simp [dkc, dk, bound]
  have ld : ldC H1[0]? 1 false 0 H1 = some (S, H1) := by rw [hH1]; simp [ldC, Dn.part, up, hS.noagg]
  have ld2 : ldC H1[0]? 1 false 1 H1 = some (T, H1) := by rw [hH1]; simp [ldC, Dn.part, up, hT.noagg]
  have c55 := call55 (pg := pg) hF hT (by have := rl.le; omega) (fun x hx => by have := (rl.all x hx).le; omega) H1
  have c55' := call55 (pg := pg) hF hS (by have := rm.le; omega) (fun x hx => by have := (rm.all x hx).le; omega) H1
  rw [h1] at c55'
  rw [h0] at c55
  have c70 := call70 (pg := pg) hF hQ96 hS rm.le rm.all H1
  have c70' := call70 (pg := pg) hF hQ96 hT rl.le rl.all H1
  have b1 : (sumsL ms).length ≤ 1000000 := Nat.le_trans (sumsN_len ms 361) (by omega)
  have b2 : (sumsL ls).length ≤ 1000000 := Nat.le_trans (sumsN_len ls 361) (by omega)
  have c71 := PFn.call (fn71 (pg := pg) hF (sumsL ms) (sumsL ls) b1 b2) (args := [elQ.lt false (sumsL ms), elQ.lt false (sumsL ls)]) (ks := []) (fs := []) (cs := []) (H := H1) (by simp [snapArgs, El.lt_snap elQ_flat])
  refine .of2 (x := .ret) (e := [(4, .b (decide (sumsL ms = sumsL ls))), (5, .i .i64 0)]) (H' := H1) (hF.S _ _) (d := d49) (by rw [hF.F]; rfl) rfl ?_ (.inl rfl) rfl (by simp) (by simp [mapO, sn_i, sn_b, sn_nil, sn8_i, sn8_b, sn8_nil, sn7_i, sn7_b, sn_sl, sn8_sl, slB_some, sn_tup, sn_agg, sn8_agg, mapO, elems])
  generalize decide (sumsL ms = sumsL ls) = D at *
  generalize elQ.lt false (sumsL ms) = A at *
  generalize elQ.lt false (sumsL ls) = B at *
  clear hH1 hS hT
  obtain ⟨e, r3⟩ : ∃ e, den pg l49_1 [(0, S), (1, T), (11, .sl 0 0 1 false 2 (some 2)), (12, .i .i64 2), (13, .i .i64 2)] H1 = some ⟨.exit 0, (0, S) :: (1, T) :: e, H1⟩ := ⟨[(11, .sl 0 0 1 false 2 (some 2)), (12, .i .i64 2), (13, .i .i64 2), (14, .b false)], by
    rw [l49_1, den_loop]
    simp (disch := omega) [b49_0, go_nil, go_last, go_past, go_pastR, go_blkN, go_blkR, go_blkE, go_skip, go_exit, go_ret, go_scope, go_seq, go_reg, go_regd, go_opdN, go_opd, go_opdG, grdd_b, grdd_u, stpd_some, find_some, go_block, go_cond, cnd_b, go_opsN, go_ops, go_opsG, grd_b, grd_u, stp_some, fin_some, up_some, cont_some, k_call, k_mv, k_pick, k_bin, k_eqB, k_eqA, k_not, k_neg, k_conv, k_alloc, k_boxA, k_boxI, k_boxB, k_boxN, k_boxBs, k_ldR, k_ldA, k_ldI, k_ldB, k_stA, k_stI, k_stB, ldC_some, stC_some, k_mkfn, k_slc, k_slcA, k_ixA, k_ixBs, k_ixSl, k_fadr, k_fld, k_ext, k_len, k_app, k_mn, k_mx, k_nilck, k_build, k_bsl1, k_bsl2, b_add, b_sub, b_mul, b_eql, b_neq, b_lss, b_leq, b_gtr, b_geq, Dn.setLast, Dn.getLast, evalO, mapO, Dn.get, putE, keepE_nil, keepE_cons, kp_some, kp_none, TV.one, TV.isAgg, Dn.part, k_boxR, negb, at0, at1, at2, at3, at4, dT, dF, wrapR_i64, Option.bind_some, Option.map_some]⟩
  have r2 : den pg l49_1 [(0, S), (1, T), (11, .sl 0 0 1 false 2 (some 2)), (12, .i .i64 2), (13, .i .i64 1)] H1 = some ⟨.exit 0, (0, S) :: (1, T) :: e, H1⟩ := by
    rw [← r3, l49_1, den_loop]
    simp (disch := omega) [l49_1, b49_0, go_nil, go_last, go_past, go_pastR, go_blkN, go_blkR, go_blkE, go_skip, go_exit, go_ret, go_scope, go_seq, go_reg, go_regd, go_opdN, go_opd, go_opdG, grdd_b, grdd_u, stpd_some, find_some, go_block, go_cond, cnd_b, go_opsN, go_ops, go_opsG, grd_b, grd_u, stp_some, fin_some, up_some, cont_some, k_call, k_mv, k_pick, k_bin, k_eqB, k_eqA, k_not, k_neg, k_conv, k_alloc, k_boxA, k_boxI, k_boxB, k_boxN, k_boxBs, k_ldR, k_ldA, k_ldI, k_ldB, k_stA, k_stI, k_stB, ldC_some, stC_some, k_mkfn, k_slc, k_slcA, k_ixA, k_ixBs, k_ixSl, k_fadr, k_fld, k_ext, k_len, k_app, k_mn, k_mx, k_nilck, k_build, k_bsl1, k_bsl2, b_add, b_sub, b_mul, b_eql, b_neq, b_lss, b_leq, b_gtr, b_geq, Dn.setLast, Dn.getLast, evalO, mapO, Dn.get, putE, keepE_nil, keepE_cons, kp_some, kp_none, TV.one, TV.isAgg, Dn.part, k_boxR, negb, at0, at1, at2, at3, at4, dT, dF, wrapR_i64, Option.bind_some, Option.map_some, ix2, ld2, c55]
  have r : den pg l49_1 [(0, S), (1, T), (11, .sl 0 0 1 false 2 (some 2)), (12, .i .i64 2), (13, .i .i64 0)] H1 = some ⟨.exit 0, (0, S) :: (1, T) :: e, H1⟩ := by
    rw [← r2, l49_1, den_loop]
    simp (disch := omega) [l49_1, b49_0, go_nil, go_last, go_past, go_pastR, go_blkN, go_blkR, go_blkE, go_skip, go_exit, go_ret, go_scope, go_seq, go_reg, go_regd, go_opdN, go_opd, go_opdG, grdd_b, grdd_u, stpd_some, find_some, go_block, go_cond, cnd_b, go_opsN, go_ops, go_opsG, grd_b, grd_u, stp_some, fin_some, up_some, cont_some, k_call, k_mv, k_pick, k_bin, k_eqB, k_eqA, k_not, k_neg, k_conv, k_alloc, k_boxA, k_boxI, k_boxB, k_boxN, k_boxBs, k_ldR, k_ldA, k_ldI, k_ldB, k_stA, k_stI, k_stB, ldC_some, stC_some, k_mkfn, k_slc, k_slcA, k_ixA, k_ixBs, k_ixSl, k_fadr, k_fld, k_ext, k_len, k_app, k_mn, k_mx, k_nilck, k_build, k_bsl1, k_bsl2, b_add, b_sub, b_mul, b_eql, b_neq, b_lss, b_leq, b_gtr, b_geq, Dn.setLast, Dn.getLast, evalO, mapO, Dn.get, putE, keepE_nil, keepE_cons, kp_some, kp_none, TV.one, TV.isAgg, Dn.part, k_boxR, negb, at0, at1, at2, at3, at4, dT, dF, wrapR_i64, Option.bind_some, Option.map_some, ix, ld, c55']
  have ln : ∀ K, lenK 0 (.sl 0 0 1 false 2 (some 2)) K = some 2 := fun K => rfl
  simp (disch := omega) [d49, c49, zipE, go_nil, go_last, go_past, go_pastR, go_blkN, go_blkR, go_blkE, go_skip, go_exit, go_ret, go_scope, go_seq, go_reg, go_regd, go_opdN, go_opd, go_opdG, grdd_b, grdd_u, stpd_some, find_some, go_block, go_cond, cnd_b, go_opsN, go_ops, go_opsG, grd_b, grd_u, stp_some, fin_some, up_some, cont_some, k_call, k_mv, k_pick, k_bin, k_eqB, k_eqA, k_not, k_neg, k_conv, k_alloc, k_boxA, k_boxI, k_boxB, k_boxN, k_boxBs, k_ldR, k_ldA, k_ldI, k_ldB, k_stA, k_stI, k_stB, ldC_some, stC_some, k_mkfn, k_slc, k_slcA, k_ixA, k_ixBs, k_ixSl, k_fadr, k_fld, k_ext, k_len, k_app, k_mn, k_mx, k_nilck, k_build, k_bsl1, k_bsl2, b_add, b_sub, b_mul, b_eql, b_neq, b_lss, b_leq, b_gtr, b_geq, Dn.setLast, Dn.getLast, evalO, mapO, Dn.get, putE, keepE_nil, keepE_cons, kp_some, kp_none, TV.one, TV.isAgg, Dn.part, k_boxR, negb, at0, at1, at2, at3, at4, dT, dF, wrapR_i64, Option.bind_some, Option.map_some, bs, ln, go_denK (c := l49_1) rfl, r, c70, c70', c71]

theorem ixR {pg : Pg} {H : Heap} {l : List (List Int)} {i : Nat} {x : List Int} (hx : l[i]? = some x) : ∃ p, dkc pg (den pg) (.ixS 1 false) [(elR false).lt false l, .i .i64 (i : Int)] H = some (p, H) ∧ dkc pg (den pg) (.ld 1 false) [p] H = some (elI.lt false x, H) := by
  obtain ⟨p, h1, h2, _⟩ := (ltV (elR false) false H l).ix (pg := pg) (R := den pg) hx .i64
  exact ⟨p, h1, h2.ld⟩

theorem l14_1_all {pg : Pg} {Y V7 V8 : TV} {ls : List (List Int)} (hl : ls.length ≤ 1000) : ∀ (k : Nat) (O : TV) (H : Heap), k ≤ ls.length → (elR false).Own H O (ls.drop k).reverse →
    ∃ e O' H', den pg l14_1 [(5, (elR false).lt false ls), (6, Y), (7, V7), (8, V8), (9, O), (10, .i .i64 ((k : Int) - 1))] H = some ⟨.exit 0, (5, (elR false).lt false ls) :: (6, Y) :: (7, V7) :: (8, V8) :: (9, O') :: e, H'⟩ ∧ (elR false).Own H' O' ls.reverse
  | 0, O, H, hk, hO => by
    rw [List.drop_zero] at hO
    refine ⟨[(10, .i .i64 (-1)), (27, .b false)], O, H, ?_, hO⟩
    generalize (elR false).lt false ls = X at *
    rw [show ((0 : Nat) : Int) - 1 = -1 by rfl, l14_1, den_loop]
    simp (disch := omega) [b14_0, go_nil, go_last, go_past, go_pastR, go_blkN, go_blkR, go_blkE, go_skip, go_exit, go_ret, go_scope, go_seq, go_reg, go_regd, go_opdN, go_opd, go_opdG, grdd_b, grdd_u, stpd_some, find_some, go_block, go_cond, cnd_b, go_opsN, go_ops, go_opsG, grd_b, grd_u, stp_some, fin_some, up_some, cont_some, k_call, k_mv, k_pick, k_bin, k_eqB, k_eqA, k_not, k_neg, k_conv, k_alloc, k_boxA, k_boxI, k_boxB, k_boxN, k_boxBs, k_ldR, k_ldA, k_ldI, k_ldB, k_stA, k_stI, k_stB, ldC_some, stC_some, k_mkfn, k_slc, k_slcA, k_ixA, k_ixBs, k_ixSl, k_fadr, k_fld, k_ext, k_len, k_app, k_mn, k_mx, k_nilck, k_build, k_bsl1, k_bsl2, b_add, b_sub, b_mul, b_eql, b_neq, b_lss, b_leq, b_gtr, b_geq, Dn.setLast, Dn.getLast, evalO, mapO, Dn.get, putE, keepE_nil, keepE_cons, kp_some, kp_none, TV.one, TV.isAgg, Dn.part, k_boxR, negb, at0, at1, at2, at3, at4, dT, dF, wrapR_i64, Option.bind_some, Option.map_some]
  | k + 1, O, H, hk, hO => by
    obtain ⟨x, hx⟩ : ∃ x, ls[k]? = some x := ⟨_, List.getElem?_eq_getElem (by omega)⟩
    obtain ⟨p, p1, p2⟩ := ixR (pg := pg) (H := H) hx
    have hc : (elI.lt false x).cells = [elI.lt false x] := by cases x <;> rfl
    have bs := k_bslC (pg := pg) (R := den pg) (El.lt_one elI false x) hc H
    obtain ⟨H1, hH1⟩ : ∃ H1, H1 = H ++ [AObj.cells [elI.lt false x] false] := ⟨_, rfl⟩
    rw [← hH1] at bs
    have hO1 : (elR false).Own H1 O (ls.drop (k + 1)).reverse := hO.mono fun id hid => by rw [hH1, List.getElem?_append_left (hO.lt id hid)]
    have vx : (elR false).View H1 (.sl H.length 0 1 false 1 (some 1)) [x] := .inr (.inr ⟨H.length, 0, some 1, [elI.lt false x], false, rfl, by simp, by rw [hH1]; exact getLast _ _, by simp [elR], by simp [elR, El.flat]⟩)
    obtain ⟨O2, H2, q1, q2, -, -, -⟩ := El.app (bytes := 24) hO1 vx (by simp; omega)
    have es : (elR false).sz = 1 := rfl
    have ea : (elR false).ag = false := rfl
    rw [es, ea] at q1
    have hdr : (ls.drop (k + 1)).reverse ++ [x] = (ls.drop k).reverse := by
      have hlt : k < ls.length := by omega
      rw [List.drop_eq_getElem_cons hlt, List.reverse_cons]
      have := List.getElem?_eq_getElem hlt
      rw [hx] at this
      rw [Option.some.inj this]
    rw [hdr] at q2
    obtain ⟨e, O', H', r1, r2⟩ := l14_1_all (pg := pg) (Y := Y) (V7 := V7) (V8 := V8) hl k O2 H2 (by omega) q2
    refine ⟨e, O', H', Eq.trans ?_ r1, r2⟩
    rw [show ((k + 1 : Nat) : Int) - 1 = (k : Int) by omega]
    obtain ⟨K0, hK0⟩ : ∃ K0, K0 = (k : Int) - 1 := ⟨_, rfl⟩
    have w2 : wrapR .i64 ((k : Int) - 1) = .i .i64 K0 := by rw [hK0]; exact wrapR_i64 (by omega)
    rw [← hK0]
    clear hK0
    have dd : decide ((k : Int) ≥ 0) = true := dT (by omega)
    have dd' : decide ((0 : Int) ≤ (k : Int)) = true := dT (by omega)
    clear hH1 hO1 vx q2 hdr r1 hO
    generalize (elR false).lt false ls = X at *
    generalize (k : Int) = K at *
    generalize elI.lt false x = V at *
    generalize (TV.sl H.length 0 1 false 1 (some 1)) = W at *
    rw [l14_1, den_loop]
    simp (disch := omega) [l14_1, b14_0, go_nil, go_last, go_past, go_pastR, go_blkN, go_blkR, go_blkE, go_skip, go_exit, go_ret, go_scope, go_seq, go_reg, go_regd, go_opdN, go_opd, go_opdG, grdd_b, grdd_u, stpd_some, find_some, go_block, go_cond, cnd_b, go_opsN, go_ops, go_opsG, grd_b, grd_u, stp_some, fin_some, up_some, cont_some, k_call, k_mv, k_pick, k_bin, k_eqB, k_eqA, k_not, k_neg, k_conv, k_alloc, k_boxA, k_boxI, k_boxB, k_boxN, k_boxBs, k_ldR, k_ldA, k_ldI, k_ldB, k_stA, k_stI, k_stB, ldC_some, stC_some, k_mkfn, k_slc, k_slcA, k_ixA, k_ixBs, k_ixSl, k_fadr, k_fld, k_ext, k_len, k_app, k_mn, k_mx, k_nilck, k_build, k_bsl1, k_bsl2, b_add, b_sub, b_mul, b_eql, b_neq, b_lss, b_leq, b_gtr, b_geq, Dn.setLast, Dn.getLast, evalO, mapO, Dn.get, putE, keepE_nil, keepE_cons, kp_some, kp_none, TV.one, TV.isAgg, Dn.part, k_boxR, negb, at0, at1, at2, at3, at4, dT, dF, wrapR_i64, Option.bind_some, Option.map_some, dd, dd', p1, p2, bs, q1, w2]

theorem run14 {pg : Pg} (hF : Free pg) (hQ96 : pg.Q 96 = some 2) (h23 : PFn pg 23 [] (.b true)) {S T : TV} {k l : List (List Int)} (hS : SSV S k) (hk : k.length ≤ 9223372036854775807) (hK : ∀ x ∈ k, x.length ≤ 9223372036854775807) (hT : SSV T l) (hl : l.length ≤ 9223372036854775807) (hL : ∀ x ∈ l, x.length ≤ 9223372036854775807) : ∃ H, bodyRun pg (den pg) 14 [S, T] [] = some (.b true, H) := by
  obtain ⟨xs, rx, c28⟩ := call28 (pg := pg) hF hS hk hK (many := 6) (most := 9) (by omega) (by omega) (by omega) []
  obtain ⟨ys, ry, c28'⟩ := call28 (pg := pg) hF hT hl hL (many := 6) (most := 9) (by omega) (by omega) (by omega) []
  have hx := rx.le
  have hy := ry.le
  have hX : ∀ d ∈ xs, DieL 60 d := fun d hd => (rx.all d hd).mono (by omega)
  have hY : ∀ d ∈ ys, DieL 60 d := fun d hd => (ry.all d hd).mono (by omega)
  have h0x := chk_row rx (by omega) (by omega)
  have h0y := chk_row ry (by omega) (by omega)
  have rrow : Row 9 6 xs.reverse := ⟨fun d hd => rx.all d (List.mem_reverse.1 hd), by rw [List.length_reverse]; exact rx.pos, by rw [List.length_reverse]; exact hx⟩
  have h0r := chk_row rrow (by omega) (by omega)
  have sn : ∀ (H : Heap) (ls : List (List Int)), snap .borrow H 9 ((elR false).lt false ls) = some ((elR true).lt true ls) := fun H ls => snap_rows false false H 6 ls
  have c49 := PFn.call (fn49 (pg := pg) hF hQ96 (elR_SSV true true xs) (elR_SSV true true ys) h0y h0x) (args := [(elR false).lt false xs, (elR false).lt false ys]) (ks := []) (fs := []) (cs := []) (H := []) (by simp [snapArgs, sn])
  obtain ⟨e, O, H, r1, r2⟩ := l14_1_all (pg := pg) (Y := (elR false).lt false ys) (V7 := .b (decide (sumsL xs = sumsL ys))) (V8 := .i .i64 0) (ls := xs) (by omega) xs.length .nilsl [] (by omega) (by rw [List.drop_length]; exact .inl ⟨rfl, rfl⟩)
  have sb := ownR_bor r2
  have c49r := PFn.call (fn49 (pg := pg) hF hQ96 (elR_SSV true true xs) (elR_SSV true true xs.reverse) h0r h0x) (args := [(elR false).lt false xs, O]) (ks := []) (fs := []) (cs := []) (H := H) (by simp [snapArgs, sn, sb])
  have hself : decide (sumsL xs = sumsL xs.reverse) = true := decide_eq_true ((sumsL_iff hx (by rw [List.length_reverse]; exact hx) hX (fun d hd => hX d (List.mem_reverse.1 hd))).2 (wn_perm (List.reverse_perm xs).symm))
  rw [hself] at c49r
  have c46x := PFn.call (fn46 (pg := pg) hF (elR_SSV true true xs) hx hX) (args := [(elR false).lt false xs]) (ks := []) (fs := []) (cs := []) (H := H) (by simp [snapArgs, sn])
  have c46y := PFn.call (fn46 (pg := pg) hF (elR_SSV true true ys) hy hY) (args := [(elR false).lt false ys]) (ks := []) (fs := []) (cs := []) (H := H) (by simp [snapArgs, sn])
  have m1 := mxS_le hX
  have m2 := mxS_le hY
  have c50 := PFn.call (fn50 (pg := pg) hF (refW xs) (refW ys) (by unfold refW; rw [gL_len]; omega) (by unfold refW; rw [gL_len]; omega)) (args := [elI.lt false (refW xs), elI.lt false (refW ys)]) (ks := []) (fs := []) (cs := []) (H := H) (by simp [snapArgs, El.lt_snap elI_flat])
  have hsame : decide (refW xs = refW ys) = decide (sumsL xs = sumsL ys) := decide_eq_decide.2 ((refW_iff hX hY).trans (sumsL_iff hx hy hX hY).symm)
  rw [hsame] at c50
  have c23 := PFn.call h23 (args := []) (ks := []) (fs := []) (cs := []) (H := H) (by simp [snapArgs])
  have l1 := lnE (elR false) xs
  obtain ⟨n1, hn1⟩ : ∃ n1, n1 = (xs.length : Int) - 1 := ⟨_, rfl⟩
  have w1 : wrapR .i64 ((xs.length : Int) - 1) = .i .i64 n1 := by rw [hn1]; exact wrapR_i64 (by omega)
  rw [← hn1] at r1
  clear hn1
  refine ⟨H, body_of (x := .ret) (e := [(4, .b true)]) (d := d14) (by rw [hF.F]; rfl) rfl ?_ (.inl rfl) rfl⟩
  simp only [Int.cast_ofNat_Int] at c28 c28'
  clear hS hT hX hY rrow h0r h0x h0y sb r2 hself hsame m1 m2 sn
  generalize decide (sumsL xs = sumsL ys) = D at *
  generalize elI.lt false (refW xs) = A at *
  generalize elI.lt false (refW ys) = B at *
  generalize (xs.length : Int) = n0 at *
  generalize (elR false).lt false xs = X at *
  generalize (elR false).lt false ys = Y at *
  cases D <;> simp (maxSteps := 1000000) (disch := omega) [d14, c14, zipE, go_nil, go_last, go_past, go_pastR, go_blkN, go_blkR, go_blkE, go_skip, go_exit, go_ret, go_scope, go_seq, go_reg, go_regd, go_opdN, go_opd, go_opdG, grdd_b, grdd_u, stpd_some, find_some, go_block, go_cond, cnd_b, go_opsN, go_ops, go_opsG, grd_b, grd_u, stp_some, fin_some, up_some, cont_some, k_call, k_mv, k_pick, k_bin, k_eqB, k_eqA, k_not, k_neg, k_conv, k_alloc, k_boxA, k_boxI, k_boxB, k_boxN, k_boxBs, k_ldR, k_ldA, k_ldI, k_ldB, k_stA, k_stI, k_stB, ldC_some, stC_some, k_mkfn, k_slc, k_slcA, k_ixA, k_ixBs, k_ixSl, k_fadr, k_fld, k_ext, k_len, k_app, k_mn, k_mx, k_nilck, k_build, k_bsl1, k_bsl2, b_add, b_sub, b_mul, b_eql, b_neq, b_lss, b_leq, b_gtr, b_geq, Dn.setLast, Dn.getLast, evalO, mapO, Dn.get, putE, keepE_nil, keepE_cons, kp_some, kp_none, TV.one, TV.isAgg, Dn.part, k_boxR, negb, at0, at1, at2, at3, at4, dT, dF, wrapR_i64, Option.bind_some, Option.map_some, c28, c28', c49, c49r, c46x, c46y, c50, l1, w1, go_denK (c := l14_1) rfl, r1, c23]

end Go.Proofs.Try.Dn

