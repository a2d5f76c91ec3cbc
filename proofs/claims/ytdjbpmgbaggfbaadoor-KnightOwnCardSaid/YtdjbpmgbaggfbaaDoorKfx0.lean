/-
  Knight: results are new memory, and no function changes its arguments: the law run.
-/
import Derived.Test.YtdjbpmgbaggfbaaDoorKfu
import Derived.Test.YtdjbpmgbaggfbaaDoorKfw
import Derived.Test.YtdjbpmgbaggfbaaDoorKe
import Derived.Test.YtdjbpmgbaggfbaaDoorKfi
set_option linter.unusedSimpArgs false
set_option linter.unusedVariables false

namespace Go.Proofs.Tryd.Dn
open Go.Dn

def Blk (sz : Nat) (H : Heap) (t : TV) (n : Nat) : Prop := (t = .nilsl ∧ n = 0) ∨ ∃ id ag cap c ag', t = .sl id 0 sz ag n cap ∧ H[id]? = some (.cells c ag') ∧ n * sz ≤ c.length

theorem Blk.own {α : Type} {E : El α} {H : Heap} {t : TV} {l : List α} (h : E.Own H t l) : Blk E.sz H t l.length := by
  rcases h with ⟨rfl, rfl⟩ | ⟨_, id, ag, c, rfl, h1, h2, _⟩
  · exact .inl ⟨rfl, rfl⟩
  · exact .inr ⟨id, E.ag, none, c, ag, rfl, h1, h2⟩
theorem Blk.wy {H : Heap} {t : TV} {l : List Int} (h : Wy H t l) : Blk 1 H t l.length := by
  rcases h with h | ⟨id, v, rfl, rfl, h⟩
  · exact Blk.own h
  · exact .inr ⟨id, false, some 1, _, false, rfl, h, by simp⟩
theorem Blk.mono {sz : Nat} {H H' : Heap} {t : TV} {n : Nat} (h : Blk sz H t n) (hf : ∀ id, t.idOf = some id → H'[id]? = H[id]?) : Blk sz H' t n := by
  rcases h with h | ⟨id, ag, cap, c, ag', rfl, h1, h2⟩
  · exact .inl h
  · exact .inr ⟨id, ag, cap, c, ag', rfl, by rw [hf id rfl]; exact h1, h2⟩
theorem Blk.len {sz : Nat} {H : Heap} {t : TV} {n : Nat} (h : Blk sz H t n) (K : Heap) : lenK 0 t K = some n := by
  rcases h with ⟨rfl, rfl⟩ | ⟨id, ag, cap, c, ag', rfl, h1, h2⟩ <;> rfl

theorem Blk.put {pg : Pg} {R : Rec} {sz : Nat} {ag0 : Bool} {H : Heap} {t v : TV} {n : Nat} (h : Blk sz H t n) {i : Nat} (hi : i < n) (hv : v.cells.length = sz) (ho : v.cells.all TV.one = true) :
    ∃ p H', dkc pg R (.ixS sz ag0) [t, .i .i64 (i : Int)] H = some (p, H) ∧ dkc pg R (.st sz) [p, v] H = some (.undef, H') ∧ Blk sz H' t n ∧ H'.length = H.length ∧ ∀ j, t.idOf ≠ some j → H'[j]? = H[j]? := by
  rcases h with ⟨rfl, rfl⟩ | ⟨id, ag, cap, c, ag', rfl, h1, h2⟩
  · omega
  · have hlt := (List.getElem?_eq_some_iff.1 h1).1
    have hr : i * sz + sz ≤ c.length := by
      have : (i + 1) * sz ≤ n * sz := Nat.mul_le_mul_right _ (by omega)
      rw [Nat.succ_mul] at this; omega
    refine ⟨.ref id (0 + i * sz), H.set id (.cells (put2 c (0 + i * sz) v.cells) ag'), ?_, ?_, .inr ⟨id, ag, cap, _, ag', rfl, List.getElem?_set_self hlt, ?_⟩, by simp, fun j hj => ?_⟩
    · simp [dkc, dk, bound, hi]
    · simp only [dkc, dk, h1]
      rw [if_pos ⟨hv, ho, by omega⟩]
    · simp only [put2, List.length_append, List.length_take, List.length_drop]
      omega
    · rw [List.getElem?_set_ne (fun he => hj (by rw [← he]; rfl))]

theorem l16_1_all {pg : Pg} {V0 V1 V7 V8 T V10 V11 V12 V13 V14 V15 : TV} {n : Nat} (hn : n ≤ 1000) : ∀ (d i : Nat) (H : Heap), i + d = n → Blk 1 H T n →
    ∃ H', den pg l16_1 [(0, V0), (1, V1), (7, V7), (8, V8), (9, T), (10, V10), (11, V11), (12, V12), (13, V13), (14, V14), (15, V15), (16, .i .i64 (i : Int))] H =
      some ⟨.exit 0, [(0, V0), (1, V1), (7, V7), (8, V8), (9, T), (10, V10), (11, V11), (12, V12), (13, V13), (14, V14), (15, V15), (16, .i .i64 (n : Int)), (66, .b false)], H'⟩ ∧ H'.length = H.length ∧ ∀ j, T.idOf ≠ some j → H'[j]? = H[j]?
  | 0, i, H, hd, hT => by
    obtain rfl : i = n := by omega
    have ln := hT.len H
    have d0 : decide ((i : Int) < (i : Int)) = false := dF (by omega)
    refine ⟨H, ?_, rfl, fun _ _ => rfl⟩
    rw [l16_1, den_loop]
    simp (disch := omega) [b16_0, go_nil, go_last, go_past, go_pastR, go_blkN, go_blkR, go_blkE, go_skip, go_exit, go_ret, go_scope, go_seq, go_reg, go_regd, go_opdN, go_opd, go_opdG, grdd_b, grdd_u, stpd_some, find_some, go_block, go_cond, cnd_b, go_opsN, go_ops, go_opsG, grd_b, grd_u, stp_some, fin_some, up_some, cont_some, k_call, k_mv, k_pick, k_bin, k_eqB, k_eqA, k_not, k_neg, k_conv, k_alloc, k_boxA, k_boxI, k_boxB, k_boxN, k_boxBs, k_ldR, k_ldA, k_ldI, k_ldB, k_stA, k_stI, k_stB, ldC_some, stC_some, k_mkfn, k_slc, k_slcA, k_ixA, k_ixBs, k_ixSl, k_fadr, k_fld, k_ext, k_len, k_app, k_mn, k_mx, k_nilck, k_build, k_bsl1, k_bsl2, b_add, b_sub, b_mul, b_eql, b_neq, b_lss, b_leq, b_gtr, b_geq, Dn.setLast, Dn.getLast, evalO, mapO, Dn.get, putE, keepE_nil, keepE_cons, kp_some, kp_none, TV.one, TV.isAgg, Dn.part, k_boxR, negb, at0, at1, at2, at3, at4, dT, dF, wrapR_i64, Option.bind_some, Option.map_some, ln, d0]
  | d + 1, i, H, hd, hT => by
    have ln := hT.len H
    obtain ⟨p, H1, p1, p2, p3, p4, p5⟩ := hT.put (pg := pg) (R := den pg) (ag0 := false) (i := i) (by omega) (v := .i .i64 (-1)) rfl rfl
    obtain ⟨H2, q1, q2, q3⟩ := l16_1_all (pg := pg) hn d (i + 1) H1 (by omega) p3
    refine ⟨H2, Eq.trans ?_ q1, by omega, fun j hj => by rw [q3 j hj, p5 j hj]⟩
    have d0 : decide ((i : Int) < (n : Int)) = true := dT (by omega)
    have p2' : dkc pg (den pg) (.st 1) [p, .i .i64 (-1)] H = some (.undef, H1) := p2
    rw [l16_1, den_loop]
    simp (disch := omega) [l16_1, b16_0, go_nil, go_last, go_past, go_pastR, go_blkN, go_blkR, go_blkE, go_skip, go_exit, go_ret, go_scope, go_seq, go_reg, go_regd, go_opdN, go_opd, go_opdG, grdd_b, grdd_u, stpd_some, find_some, go_block, go_cond, cnd_b, go_opsN, go_ops, go_opsG, grd_b, grd_u, stp_some, fin_some, up_some, cont_some, k_call, k_mv, k_pick, k_bin, k_eqB, k_eqA, k_not, k_neg, k_conv, k_alloc, k_boxA, k_boxI, k_boxB, k_boxN, k_boxBs, k_ldR, k_ldA, k_ldI, k_ldB, k_stA, k_stI, k_stB, ldC_some, stC_some, k_mkfn, k_slc, k_slcA, k_ixA, k_ixBs, k_ixSl, k_fadr, k_fld, k_ext, k_len, k_app, k_mn, k_mx, k_nilck, k_build, k_bsl1, k_bsl2, b_add, b_sub, b_mul, b_eql, b_neq, b_lss, b_leq, b_gtr, b_geq, Dn.setLast, Dn.getLast, evalO, mapO, Dn.get, putE, keepE_nil, keepE_cons, kp_some, kp_none, TV.one, TV.isAgg, Dn.part, k_boxR, negb, at0, at1, at2, at3, at4, dT, dF, wrapR_i64, Option.bind_some, Option.map_some, ln, d0, p1, p2']

theorem l16_5_all {pg : Pg} {V0 V1 V7 V8 T V10 V12 V14 V15 : TV} {n : Nat} (hn : n ≤ 1000) : ∀ (d i : Nat) (H : Heap), i + d = n → Blk 1 H T n →
    ∃ H', den pg l16_5 [(0, V0), (1, V1), (7, V7), (8, V8), (10, V10), (12, V12), (13, T), (14, V14), (15, V15), (18, .i .i64 (i : Int))] H =
      some ⟨.exit 4, [(0, V0), (1, V1), (7, V7), (8, V8), (10, V10), (12, V12), (13, T), (14, V14), (15, V15), (18, .i .i64 (n : Int)), (85, .b false)], H'⟩ ∧ H'.length = H.length ∧ ∀ j, T.idOf ≠ some j → H'[j]? = H[j]?
  | 0, i, H, hd, hT => by
    obtain rfl : i = n := by omega
    have ln := hT.len H
    have d0 : decide ((i : Int) < (i : Int)) = false := dF (by omega)
    refine ⟨H, ?_, rfl, fun _ _ => rfl⟩
    rw [l16_5, den_loop]
    simp (disch := omega) [b16_4, go_nil, go_last, go_past, go_pastR, go_blkN, go_blkR, go_blkE, go_skip, go_exit, go_ret, go_scope, go_seq, go_reg, go_regd, go_opdN, go_opd, go_opdG, grdd_b, grdd_u, stpd_some, find_some, go_block, go_cond, cnd_b, go_opsN, go_ops, go_opsG, grd_b, grd_u, stp_some, fin_some, up_some, cont_some, k_call, k_mv, k_pick, k_bin, k_eqB, k_eqA, k_not, k_neg, k_conv, k_alloc, k_boxA, k_boxI, k_boxB, k_boxN, k_boxBs, k_ldR, k_ldA, k_ldI, k_ldB, k_stA, k_stI, k_stB, ldC_some, stC_some, k_mkfn, k_slc, k_slcA, k_ixA, k_ixBs, k_ixSl, k_fadr, k_fld, k_ext, k_len, k_app, k_mn, k_mx, k_nilck, k_build, k_bsl1, k_bsl2, b_add, b_sub, b_mul, b_eql, b_neq, b_lss, b_leq, b_gtr, b_geq, Dn.setLast, Dn.getLast, evalO, mapO, Dn.get, putE, keepE_nil, keepE_cons, kp_some, kp_none, TV.one, TV.isAgg, Dn.part, k_boxR, negb, at0, at1, at2, at3, at4, dT, dF, wrapR_i64, Option.bind_some, Option.map_some, ln, d0]
  | d + 1, i, H, hd, hT => by
    have ln := hT.len H
    obtain ⟨p, H1, p1, p2, p3, p4, p5⟩ := hT.put (pg := pg) (R := den pg) (ag0 := false) (i := i) (by omega) (v := .i .i64 (-1)) rfl rfl
    obtain ⟨H2, q1, q2, q3⟩ := l16_5_all (pg := pg) hn d (i + 1) H1 (by omega) p3
    refine ⟨H2, Eq.trans ?_ q1, by omega, fun j hj => by rw [q3 j hj, p5 j hj]⟩
    have d0 : decide ((i : Int) < (n : Int)) = true := dT (by omega)
    have p2' : dkc pg (den pg) (.st 1) [p, .i .i64 (-1)] H = some (.undef, H1) := p2
    rw [l16_5, den_loop]
    simp (disch := omega) [l16_5, b16_4, go_nil, go_last, go_past, go_pastR, go_blkN, go_blkR, go_blkE, go_skip, go_exit, go_ret, go_scope, go_seq, go_reg, go_regd, go_opdN, go_opd, go_opdG, grdd_b, grdd_u, stpd_some, find_some, go_block, go_cond, cnd_b, go_opsN, go_ops, go_opsG, grd_b, grd_u, stp_some, fin_some, up_some, cont_some, k_call, k_mv, k_pick, k_bin, k_eqB, k_eqA, k_not, k_neg, k_conv, k_alloc, k_boxA, k_boxI, k_boxB, k_boxN, k_boxBs, k_ldR, k_ldA, k_ldI, k_ldB, k_stA, k_stI, k_stB, ldC_some, stC_some, k_mkfn, k_slc, k_slcA, k_ixA, k_ixBs, k_ixSl, k_fadr, k_fld, k_ext, k_len, k_app, k_mn, k_mx, k_nilck, k_build, k_bsl1, k_bsl2, b_add, b_sub, b_mul, b_eql, b_neq, b_lss, b_leq, b_gtr, b_geq, Dn.setLast, Dn.getLast, evalO, mapO, Dn.get, putE, keepE_nil, keepE_cons, kp_some, kp_none, TV.one, TV.isAgg, Dn.part, k_boxR, negb, at0, at1, at2, at3, at4, dT, dF, wrapR_i64, Option.bind_some, Option.map_some, ln, d0, p1, p2']

theorem l16_3_all {pg : Pg} {V0 V1 V7 V8 T V10 V12 V13 V14 V15 : TV} {n : Nat} (hn : n ≤ 1000) : ∀ (d i : Nat) (H : Heap), i + d = n → Blk 2 H T n →
    ∃ H', den pg l16_3 [(0, V0), (1, V1), (7, V7), (8, V8), (10, V10), (11, T), (12, V12), (13, V13), (14, V14), (15, V15), (17, .i .i64 (i : Int))] H =
      some ⟨.exit 2, [(0, V0), (1, V1), (7, V7), (8, V8), (10, V10), (11, T), (12, V12), (13, V13), (14, V14), (15, V15), (17, .i .i64 (n : Int)), (75, .b false)], H'⟩ ∧ H'.length = H.length ∧ ∀ j, T.idOf ≠ some j → H'[j]? = H[j]?
  | 0, i, H, hd, hT => by
    obtain rfl : i = n := by omega
    have ln := hT.len H
    have d0 : decide ((i : Int) < (i : Int)) = false := dF (by omega)
    refine ⟨H, ?_, rfl, fun _ _ => rfl⟩
    rw [l16_3, den_loop]
    simp (disch := omega) [b16_2, go_nil, go_last, go_past, go_pastR, go_blkN, go_blkR, go_blkE, go_skip, go_exit, go_ret, go_scope, go_seq, go_reg, go_regd, go_opdN, go_opd, go_opdG, grdd_b, grdd_u, stpd_some, find_some, go_block, go_cond, cnd_b, go_opsN, go_ops, go_opsG, grd_b, grd_u, stp_some, fin_some, up_some, cont_some, k_call, k_mv, k_pick, k_bin, k_eqB, k_eqA, k_not, k_neg, k_conv, k_alloc, k_boxA, k_boxI, k_boxB, k_boxN, k_boxBs, k_ldR, k_ldA, k_ldI, k_ldB, k_stA, k_stI, k_stB, ldC_some, stC_some, k_mkfn, k_slc, k_slcA, k_ixA, k_ixBs, k_ixSl, k_fadr, k_fld, k_ext, k_len, k_app, k_mn, k_mx, k_nilck, k_build, k_bsl1, k_bsl2, b_add, b_sub, b_mul, b_eql, b_neq, b_lss, b_leq, b_gtr, b_geq, Dn.setLast, Dn.getLast, evalO, mapO, Dn.get, putE, keepE_nil, keepE_cons, kp_some, kp_none, TV.one, TV.isAgg, Dn.part, k_boxR, negb, at0, at1, at2, at3, at4, dT, dF, wrapR_i64, Option.bind_some, Option.map_some, ln, d0]
  | d + 1, i, H, hd, hT => by
    have ln := hT.len H
    obtain ⟨p, H1, p1, p2, p3, p4, p5⟩ := hT.put (pg := pg) (R := den pg) (ag0 := true) (i := i) (by omega) (v := .agg [.i .i64 (-1), .i .i64 (-1)]) rfl rfl
    obtain ⟨H2, q1, q2, q3⟩ := l16_3_all (pg := pg) hn d (i + 1) H1 (by omega) p3
    refine ⟨H2, Eq.trans ?_ q1, by omega, fun j hj => by rw [q3 j hj, p5 j hj]⟩
    have d0 : decide ((i : Int) < (n : Int)) = true := dT (by omega)
    have bld := fun K => k_bld2 (pg := pg) (R := den pg) (-1) (-1) K
    have p2' : dkc pg (den pg) (.st 2) [p, .agg [.i .i64 (-1), .i .i64 (-1)]] H = some (.undef, H1) := p2
    rw [l16_3, den_loop]
    simp (disch := omega) [l16_3, b16_2, go_nil, go_last, go_past, go_pastR, go_blkN, go_blkR, go_blkE, go_skip, go_exit, go_ret, go_scope, go_seq, go_reg, go_regd, go_opdN, go_opd, go_opdG, grdd_b, grdd_u, stpd_some, find_some, go_block, go_cond, cnd_b, go_opsN, go_ops, go_opsG, grd_b, grd_u, stp_some, fin_some, up_some, cont_some, k_call, k_mv, k_pick, k_bin, k_eqB, k_eqA, k_not, k_neg, k_conv, k_alloc, k_boxA, k_boxI, k_boxB, k_boxN, k_boxBs, k_ldR, k_ldA, k_ldI, k_ldB, k_stA, k_stI, k_stB, ldC_some, stC_some, k_mkfn, k_slc, k_slcA, k_ixA, k_ixBs, k_ixSl, k_fadr, k_fld, k_ext, k_len, k_app, k_mn, k_mx, k_nilck, k_build, k_bsl1, k_bsl2, b_add, b_sub, b_mul, b_eql, b_neq, b_lss, b_leq, b_gtr, b_geq, Dn.setLast, Dn.getLast, evalO, mapO, Dn.get, putE, keepE_nil, keepE_cons, kp_some, kp_none, TV.one, TV.isAgg, Dn.part, k_boxR, negb, at0, at1, at2, at3, at4, dT, dF, wrapR_i64, Option.bind_some, Option.map_some, ln, d0, p1, p2', bld]

theorem wy_snap {H : Heap} {t : TV} {l : List Int} (h : Wy H t l) : snap .borrow H 9 t = some (elI.lt true l) := by
  rcases h with h | ⟨id, v, rfl, rfl, h⟩
  · exact h.snap elI_flat
  · rw [sn_sl _ (by decide), h, slB_some]
    simp [sn_i, sn_b, sn_nil, sn8_i, sn8_b, sn8_nil, sn7_i, sn7_b, sn_sl, sn8_sl, slB_some, sn_tup, sn_agg, sn8_agg, mapO, elems]
    rfl

theorem fn52_any {pg : Pg} (hF : Free pg) {r c : Nat} (h : Brd r c) {A : TV} {l : List Int} (hA : SV A l) (h64 : l.length ≤ 1000000) : ∃ R, PFn pg 52 [.i .i64 (r : Int), .i .i64 (c : Int), A] R := by
  cases hc : closedB r c l with
  | false => exact ⟨_, fn52_no hF h hA h64 hc⟩
  | true =>
    obtain ⟨i, i0, ib, il⟩ := zero_at h hc
    exact ⟨_, fn52_yes hF h hA h64 hc i0 ib⟩

set_option maxRecDepth 20000 in
theorem run16 {pg : Pg} (hF : Free pg) (h25 : PFn pg 25 [] (.b true)) (x y : Int) {A : TV} {l : List Int} (hA : SV A l) (h64 : l.length ≤ 9223372036854775807) : ∃ H, bodyRun pg (den pg) 16 [.i .i64 x, .i .i64 y, A] [] = some (.b true, H) := by
  obtain ⟨r, c, h, c18⟩ := call18 hF x y
  have hn := h.n36
  have hrc : 0 < r * c := by
    rcases Nat.eq_zero_or_pos (r * c) with g | g
    · exfalso
      have := of_decide_eq_true (h.ok (P := fun r c => decide (1 ≤ r * c)) (by kernel_rfl))
      omega
    · exact g
  have c25 := fun H => PFn.call h25 (args := []) (ks := []) (fs := []) (cs := []) (H := H) (by simp [snapArgs])
  obtain ⟨A', sA, hA'⟩ := sv_snapB hA
  have c50 := fun H => PFn.call (fn50 hF hA' h64) (args := [A]) (ks := []) (fs := []) (cs := []) (H := H) (by simp [snapArgs, sA])
  obtain ⟨lx, hlx⟩ : ∃ lx, lx = l.take 37 := ⟨_, rfl⟩
  rw [← hlx] at c50
  have hl2 : lx.length ≤ 37 := by rw [hlx, List.length_take]; omega
  have hs := fun H => snap_ints false H 7 lx
  have sv := SV.lt true lx
  have c50b := fun H => PFn.call (fn50 hF sv (by omega)) (args := [elI.lt false lx]) (ks := []) (fs := []) (cs := []) (H := H) (by simp [snapArgs, hs])
  rw [show lx.take 37 = lx from List.take_of_length_le hl2] at c50b
  obtain ⟨R51, f51⟩ : ∃ R, PFn pg 51 [.i .i64 (r : Int), .i .i64 (c : Int), elI.lt true lx] R := ⟨_, fn51 hF h sv (by omega)⟩
  have c51 := fun H => PFn.call f51 (args := [.i .i64 (r : Int), .i .i64 (c : Int), elI.lt false lx]) (ks := []) (fs := []) (cs := []) (H := H) (by simp [snapArgs, sn_i, hs])
  obtain ⟨R52, f52⟩ := fn52_any (pg := pg) hF h sv (by omega)
  have c52 := fun H => PFn.call f52 (args := [.i .i64 (r : Int), .i .i64 (c : Int), elI.lt false lx]) (ks := []) (fs := []) (cs := []) (H := H) (by simp [snapArgs, sn_i, hs])
  have c32x := fun H => PFn.call (fn32 hF sv sv (by omega) (by omega)) (args := [elI.lt false lx, elI.lt false lx]) (ks := []) (fs := []) (cs := []) (H := H) (by simp [snapArgs, hs])
  rw [dT rfl] at c32x
  -- the calls whose results are written over
  obtain ⟨Ra, H28, b28, o28⟩ := body28 (pg := pg) hF h hrc
  obtain ⟨Rp, H46, b46, o46⟩ := body46 (pg := pg) hF h
  obtain ⟨Rs, ls, H20, b20, o20, t1, t2, t3⟩ := body20 (pg := pg) hF h
  simp only [Int.natCast_zero] at b28
  have sa3 : ∀ H, snapArgs H [] [.i .i64 (r : Int), .i .i64 (c : Int), .i .i64 0] = some [.i .i64 (r : Int), .i .i64 (c : Int), .i .i64 0] := fun H => sa_I (sa_I (sa_I sa_0))
  have sa2 : ∀ H, snapArgs H [] [.i .i64 (r : Int), .i .i64 (c : Int)] = some [.i .i64 (r : Int), .i .i64 (c : Int)] := fun H => sa_I (sa_I sa_0)
  have g28 : ∀ H, ∃ a H', callRun pg (den pg) .gr [.fn 28 [] [], .i .i64 (r : Int), .i .i64 (c : Int), .i .i64 0] H = some (.tup [a, .i .i64 0], H') ∧ elI.Own H' a (nI (movesOf r c 0)) ∧ (∀ id, a.idOf = some id → H.length ≤ id) ∧ H.length ≤ H'.length ∧ ∀ j, j < H.length → H'[j]? = H[j]? := fun H => by
    obtain ⟨a, g1, g2, g3⟩ := own_graft (H := H) elI_scal o28
    exact ⟨a, _, call_graft (sa3 H) b28 (by simp only [grR, mapO, g1]; rfl), g2, g3, by simp, fun j hj => List.getElem?_append_left hj⟩
  have g46 : ∀ H, ∃ a H', callRun pg (den pg) .gr [.fn 46 [] [], .i .i64 (r : Int), .i .i64 (c : Int)] H = some (.tup [a, .i .i64 0], H') ∧ elP.Own H' a (pairsOf r c) ∧ (∀ id, a.idOf = some id → H.length ≤ id) ∧ H.length ≤ H'.length ∧ ∀ j, j < H.length → H'[j]? = H[j]? := fun H => by
    obtain ⟨a, g1, g2, g3⟩ := own_graft (H := H) elP_scal o46
    exact ⟨a, _, call_graft (sa2 H) b46 (by simp only [grR, mapO, g1]; rfl), g2, g3, by simp, fun j hj => List.getElem?_append_left hj⟩
  have g20 : ∀ H, ∃ a H', callRun pg (den pg) .gr [.fn 20 [] [], .i .i64 (r : Int), .i .i64 (c : Int)] H = some (.tup [a, .b (hasTr r c), .i .i64 0], H') ∧ Wy H' a ls ∧ (∀ id, a.idOf = some id → H.length ≤ id) ∧ H.length ≤ H'.length ∧ ∀ j, j < H.length → H'[j]? = H[j]? := fun H => by
    obtain ⟨a, g1, g2, g3⟩ := wy_graft (H := H) o20
    exact ⟨a, _, call_graft (sa2 H) b20 (by simp only [grR, mapO, g1]; rfl), g2, g3, by simp, fun j hj => List.getElem?_append_left hj⟩
  obtain ⟨a, Ha, k1, k2, k3, k4, k5⟩ := g28 []
  obtain ⟨p, Hb, m1, m2, m3, m4, m5⟩ := g46 Ha
  obtain ⟨s, Hc, n1, n2, n3, n4, n5⟩ := g20 Hb
  have hma : (nI (movesOf r c 0)).length ≤ 1000 := by rw [nI_len]; unfold movesOf; have := mem64_le (mv r c 0); omega
  have hmp : (pairsOf r c).length ≤ 1000 := by
    unfold pairsOf pairL
    rw [List.length_map]
    exact Nat.le_trans (List.length_filter_le _ _) (Nat.le_trans (mem64_le _) (by decide))
  have bka : Blk 1 Hc a (nI (movesOf r c 0)).length := (Blk.own k2).mono fun id hid => by
    have := k2.lt id hid
    rw [n5 id (by omega), m5 id this]
  have bkp : Blk 2 Hc p (pairsOf r c).length := (Blk.own m2).mono fun id hid => by
    have := m2.lt id hid
    rw [n5 id this]
  have bks : Blk 1 Hc s ls.length := Blk.wy n2
  obtain ⟨Hd, u1, u2, u3⟩ := l16_1_all (pg := pg) (V0 := .i .i64 (r : Int)) (V1 := .i .i64 (c : Int)) (V7 := elI.lt false lx) (V8 := elI.lt false lx) (T := a) (V10 := .i .i64 0) (V11 := p) (V12 := .i .i64 0) (V13 := s) (V14 := .b (hasTr r c)) (V15 := .i .i64 0) hma (nI (movesOf r c 0)).length 0 Hc (by omega) bka
  have bkp1 : Blk 2 Hd p (pairsOf r c).length := bkp.mono fun id hid => u3 id fun he => by
    have := k2.lt id he
    have := m3 id hid
    omega
  have bks1 : Blk 1 Hd s ls.length := bks.mono fun id hid => u3 id fun he => by
    have := k2.lt id he
    have := n3 id hid
    omega
  obtain ⟨He, v1, v2, v3⟩ := l16_3_all (pg := pg) (V0 := .i .i64 (r : Int)) (V1 := .i .i64 (c : Int)) (V7 := elI.lt false lx) (V8 := elI.lt false lx) (T := p) (V10 := .i .i64 0) (V12 := .i .i64 0) (V13 := s) (V14 := .b (hasTr r c)) (V15 := .i .i64 0) hmp (pairsOf r c).length 0 Hd (by omega) bkp1
  have bks2 : Blk 1 He s ls.length := bks1.mono fun id hid => v3 id fun he => by
    have := m2.lt id he
    have := n3 id hid
    omega
  obtain ⟨Hf, w1, w2, w3⟩ := l16_5_all (pg := pg) (V0 := .i .i64 (r : Int)) (V1 := .i .i64 (c : Int)) (V7 := elI.lt false lx) (V8 := elI.lt false lx) (T := s) (V10 := .i .i64 0) (V12 := .i .i64 0) (V14 := .b (hasTr r c)) (V15 := .i .i64 0) (by omega) ls.length 0 He (by omega) bks2
  simp only [Int.natCast_zero] at u1 v1 w1
  obtain ⟨b, Hg, k1', k2', k3', k4', k5'⟩ := g28 Hf
  obtain ⟨q, Hh, m1', m2', m3', m4', m5'⟩ := g46 Hg
  obtain ⟨t, Hi, n1', n2', n3', n4', n5'⟩ := g20 Hh
  have c33 := fun H => call33 (pg := pg) hF h hrc H
  simp only [Int.natCast_zero] at c33
  have ob : elI.Own Hi b (nI (movesOf r c 0)) := k2'.mono fun id hid => by
    have := k2'.lt id hid
    rw [n5' id (by omega), m5' id this]
  have oq : elP.Own Hi q (pairsOf r c) := m2'.mono fun id hid => by
    have := m2'.lt id hid
    rw [n5' id this]
  have sb := ob.snap elI_flat
  rw [movesOf_movR h hrc] at sb
  have hmr := movR_len r c 0
  have sm := fun H => snap_ints false H 7 (nI (movR r c 0))
  have f32b := fn32 (pg := pg) hF (SV.lt true (nI (movR r c 0))) (SV.lt true (nI (movR r c 0))) (by rw [nI_len]; omega) (by rw [nI_len]; omega)
  rw [dT rfl] at f32b
  have c32b := PFn.call f32b (args := [b, elI.lt false (nI (movR r c 0))]) (ks := []) (fs := []) (cs := []) (H := Hi) (by simp [snapArgs, sb, sm])
  have sq := oq.snap elP_flat
  have svq : SVP (elP.lt true (pairsOf r c)) (pairsOf r c) := by
    cases hp : pairsOf r c with
    | nil => exact .inl ⟨rfl, rfl⟩
    | cons z zs => exact .inr ⟨true, rfl⟩
  have c49 := PFn.call (fn49 (pg := pg) hF h svq (by omega) (quiet_facts h).2.2.2.1) (args := [.i .i64 (r : Int), .i .i64 (c : Int), q]) (ks := []) (fs := []) (cs := []) (H := Hi) (by simp [snapArgs, sn_i, sq])
  have st := wy_snap n2'
  have c23 := PFn.call (fn23 (pg := pg) hF h (SV.lt true ls) (by omega)) (args := [.i .i64 (r : Int), .i .i64 (c : Int), t]) (ks := []) (fs := []) (cs := []) (H := Hi) (by simp [snapArgs, sn_i, st])
  refine ⟨Hi, body_of (x := .ret) (e := [(6, .b true)]) (d := d16) (by rw [hF.F]; rfl) rfl ?_ (.inl rfl) rfl⟩
  generalize elI.lt false (nI (movR r c 0)) = MR at *
  cases ht : hasTr r c with
  | true =>
    rw [ht] at n1 n1' u1 v1 w1
    rw [t1 ht] at c23
    generalize elI.lt false lx = TT at *
    simp (disch := omega) [d16, c16, zipE, go_nil, go_last, go_past, go_pastR, go_blkN, go_blkR, go_blkE, go_skip, go_exit, go_ret, go_scope, go_seq, go_reg, go_regd, go_opdN, go_opd, go_opdG, grdd_b, grdd_u, stpd_some, find_some, go_block, go_cond, cnd_b, go_opsN, go_ops, go_opsG, grd_b, grd_u, stp_some, fin_some, up_some, cont_some, k_call, k_mv, k_pick, k_bin, k_eqB, k_eqA, k_not, k_neg, k_conv, k_alloc, k_boxA, k_boxI, k_boxB, k_boxN, k_boxBs, k_ldR, k_ldA, k_ldI, k_ldB, k_stA, k_stI, k_stB, ldC_some, stC_some, k_mkfn, k_slc, k_slcA, k_ixA, k_ixBs, k_ixSl, k_fadr, k_fld, k_ext, k_len, k_app, k_mn, k_mx, k_nilck, k_build, k_bsl1, k_bsl2, b_add, b_sub, b_mul, b_eql, b_neq, b_lss, b_leq, b_gtr, b_geq, Dn.setLast, Dn.getLast, evalO, mapO, Dn.get, putE, keepE_nil, keepE_cons, kp_some, kp_none, TV.one, TV.isAgg, Dn.part, k_boxR, negb, at0, at1, at2, at3, at4, dT, dF, wrapR_i64, Option.bind_some, Option.map_some, c18, c50, c50b, c51, c52, k1, m1, n1, go_denK (c := l16_1) rfl, go_denK (c := l16_3) rfl, go_denK (c := l16_5) rfl, u1, v1, w1, k1', m1', n1', c32x, c33, c32b, c49, c23, c25]
  | false =>
    rw [ht] at n1 n1' u1 v1 w1
    generalize elI.lt false lx = TT at *
    simp (disch := omega) [d16, c16, zipE, go_nil, go_last, go_past, go_pastR, go_blkN, go_blkR, go_blkE, go_skip, go_exit, go_ret, go_scope, go_seq, go_reg, go_regd, go_opdN, go_opd, go_opdG, grdd_b, grdd_u, stpd_some, find_some, go_block, go_cond, cnd_b, go_opsN, go_ops, go_opsG, grd_b, grd_u, stp_some, fin_some, up_some, cont_some, k_call, k_mv, k_pick, k_bin, k_eqB, k_eqA, k_not, k_neg, k_conv, k_alloc, k_boxA, k_boxI, k_boxB, k_boxN, k_boxBs, k_ldR, k_ldA, k_ldI, k_ldB, k_stA, k_stI, k_stB, ldC_some, stC_some, k_mkfn, k_slc, k_slcA, k_ixA, k_ixBs, k_ixSl, k_fadr, k_fld, k_ext, k_len, k_app, k_mn, k_mx, k_nilck, k_build, k_bsl1, k_bsl2, b_add, b_sub, b_mul, b_eql, b_neq, b_lss, b_leq, b_gtr, b_geq, Dn.setLast, Dn.getLast, evalO, mapO, Dn.get, putE, keepE_nil, keepE_cons, kp_some, kp_none, TV.one, TV.isAgg, Dn.part, k_boxR, negb, at0, at1, at2, at3, at4, dT, dF, wrapR_i64, Option.bind_some, Option.map_some, c18, c50, c50b, c51, c52, k1, m1, n1, go_denK (c := l16_1) rfl, go_denK (c := l16_3) rfl, go_denK (c := l16_5) rfl, u1, v1, w1, k1', m1', n1', c32x, c33, c32b, c49, c25]

end Go.Proofs.Tryd.Dn

