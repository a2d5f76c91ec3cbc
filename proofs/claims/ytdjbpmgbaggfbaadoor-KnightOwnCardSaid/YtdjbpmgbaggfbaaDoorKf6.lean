/-
  Knight: the reference's search for the least numbers of steps, in plain terms.
-/
import Derived.Test.YtdjbpmgbaggfbaaDoorKf3
import Derived.Test.YtdjbpmgbaggfbaaDoorKb
import Derived.Test.YtdjbpmgbaggfbaaDoorDd
set_option linter.unusedSimpArgs false
set_option linter.unusedVariables false

namespace Go.Proofs.Tryd.Dn
open Go.Dn

def movR (r c s : Nat) : List Nat := (List.range (r * c)).filter (near c s)

theorem movesOf_movR {r c s : Nat} (h : Brd r c) (hs : s < r * c) : movesOf r c s = movR r c s := by
  have hn := h.n36
  unfold movesOf mem64 movR
  rw [show 64 = r * c + (64 - r * c) by omega, List.range_add, List.filter_append]
  have h2 : ((List.range (64 - r * c)).map (fun x => r * c + x)).filter (fun i => (mv r c s).testBit i) = [] := by
    rw [List.filter_eq_nil_iff]
    intro x hx
    rw [List.mem_map] at hx
    obtain ⟨y, _, rfl⟩ := hx
    have := Nat.testBit_lt_two_pow (i := r * c + y) (Nat.lt_of_lt_of_le (mv_bound h hs) (Nat.pow_le_pow_right (by decide) (Nat.le_add_right _ _)))
    rw [this]; exact Bool.false_ne_true
  rw [h2, List.append_nil]
  refine List.filter_congr fun t ht => ?_
  rw [List.mem_range] at ht
  exact mv_near h hs ht

theorem getD_set {l : List Int} {i j : Nat} {v d : Int} (hi : i < l.length) : (l.set i v).getD j d = if j = i then v else l.getD j d := by
  simp only [List.getD_eq_getElem?_getD]
  by_cases h : j = i
  · subst h; rw [if_pos rfl, List.getElem?_set_self hi]; rfl
  · rw [if_neg h, List.getElem?_set_ne (by omega)]

end Go.Proofs.Tryd.Dn

/-
  Knight: the reference's moves.
-/

namespace Go.Proofs.Tryd.Dn
open Go.Dn




theorem range_drop_filter (p : Nat → Bool) {n t : Nat} (ht : t < n) : ((List.range n).drop t).filter p = (if p t then [t] else []) ++ ((List.range n).drop (t + 1)).filter p := by
  have : (List.range n).drop t = t :: (List.range n).drop (t + 1) := by
    rw [List.drop_eq_getElem_cons (by simpa using ht)]
    simp
  rw [this, List.filter_cons]
  split <;> simp

theorem l33_all {pg : Pg} (hF : Free pg) {r c a : Nat} (h : Brd r c) (ha : a < r * c) {base : Nat} {H0 : Heap} : ∀ (d t : Nat) (R : TV) (m : List Int) (H : Heap), t + d = r * c → m.length ≤ t → RowInv base H0 H R m →
    ∃ e R' H', den pg l33_1 [(0, .i .i64 (r : Int)), (1, .i .i64 (c : Int)), (2, .i .i64 (a : Int)), (7, R), (8, .i .i64 (t : Int))] H = some ⟨.exit 0, e, H'⟩ ∧ Dn.get e 7 = some R' ∧ RowInv base H0 H' R' (m ++ nI (((List.range (r * c)).drop t).filter (near c a)))
  | 0, t, R, m, H, hd, hm, hR => by
    obtain ⟨hcast, wn⟩ := rc_facts h
    obtain rfl : t = r * c := by omega
    refine ⟨_, R, H, by
      rw [hcast, l33_1, den_loop]
      simp [b33_0, go_nil, go_last, go_past, go_pastR, go_blkN, go_blkR, go_blkE, go_skip, go_exit, go_ret, go_scope, go_seq, go_reg, go_regd, go_opdN, go_opd, go_opdG, grdd_b, grdd_u, stpd_some, find_some, go_block, go_cond, cnd_b, go_opsN, go_ops, go_opsG, grd_b, grd_u, stp_some, fin_some, up_some, cont_some, k_call, k_mv, k_pick, k_bin, k_eqB, k_eqA, k_not, k_neg, k_conv, k_alloc, k_boxA, k_boxI, k_boxB, k_boxN, k_boxBs, k_ldR, k_ldA, k_ldI, k_ldB, k_stA, k_stI, k_stB, ldC_some, stC_some, k_mkfn, k_slc, k_slcA, k_ixA, k_ixBs, k_ixSl, k_fadr, k_fld, k_ext, k_len, k_app, k_mn, k_mx, k_nilck, k_build, k_bsl1, k_bsl2, b_add, b_sub, b_mul, b_eql, b_neq, b_lss, b_leq, b_gtr, b_geq, Dn.setLast, Dn.getLast, evalO, mapO, Dn.get, putE, keepE, TV.one, TV.isAgg, Dn.part, wn]
      rfl, rfl, ?_⟩
    rw [List.drop_eq_nil_of_le (by simp)]
    simpa [nI] using hR
  | d + 1, t, R, m, H, hd, hm, hR => by
    have hn := h.n36
    obtain ⟨hcast, wn⟩ := rc_facts h
    have c62 := fun K => call62 hF h.c1 h.c8 (a := a) (b := t) (by omega) (by omega) K
    rw [range_drop_filter _ (show t < r * c by omega)]
    cases hnr : near c a t with
    | false =>
      obtain ⟨e, R', H', h1, h2, h3⟩ := l33_all hF h ha d (t + 1) R m H (by omega) (by omega) hR
      refine ⟨e, R', H', Eq.trans ?_ h1, h2, by simpa using h3⟩
      rw [l33_1, den_loop]
      simp (disch := omega) [l33_1, b33_0, go_nil, go_last, go_past, go_pastR, go_blkN, go_blkR, go_blkE, go_skip, go_exit, go_ret, go_scope, go_seq, go_reg, go_regd, go_opdN, go_opd, go_opdG, grdd_b, grdd_u, stpd_some, find_some, go_block, go_cond, cnd_b, go_opsN, go_ops, go_opsG, grd_b, grd_u, stp_some, fin_some, up_some, cont_some, k_call, k_mv, k_pick, k_bin, k_eqB, k_eqA, k_not, k_neg, k_conv, k_alloc, k_boxA, k_boxI, k_boxB, k_boxN, k_boxBs, k_ldR, k_ldA, k_ldI, k_ldB, k_stA, k_stI, k_stB, ldC_some, stC_some, k_mkfn, k_slc, k_slcA, k_ixA, k_ixBs, k_ixSl, k_fadr, k_fld, k_ext, k_len, k_app, k_mn, k_mx, k_nilck, k_build, k_bsl1, k_bsl2, b_add, b_sub, b_mul, b_eql, b_neq, b_lss, b_leq, b_gtr, b_geq, Dn.setLast, Dn.getLast, evalO, mapO, Dn.get, putE, keepE_nil, keepE_cons, kp_some, kp_none, TV.one, TV.isAgg, Dn.part, k_boxR, negb, at0, at1, at2, at3, at4, dT, dF, wrapR_i64, Option.bind_some, Option.map_some, wn, c62, hnr]
    | true =>
      obtain ⟨R1, H1, p1, p2⟩ := hR.push (t : Int) (by omega)
      obtain ⟨e, R', H', h1, h2, h3⟩ := l33_all hF h ha d (t + 1) R1 (m ++ [(t : Int)]) H1 (by omega) (by simp; omega) p2
      refine ⟨e, R', H', Eq.trans ?_ h1, h2, by simpa [nI] using h3⟩
      rw [l33_1, den_loop]
      simp (disch := omega) [l33_1, b33_0, go_nil, go_last, go_past, go_pastR, go_blkN, go_blkR, go_blkE, go_skip, go_exit, go_ret, go_scope, go_seq, go_reg, go_regd, go_opdN, go_opd, go_opdG, grdd_b, grdd_u, stpd_some, find_some, go_block, go_cond, cnd_b, go_opsN, go_ops, go_opsG, grd_b, grd_u, stp_some, fin_some, up_some, cont_some, k_call, k_mv, k_pick, k_bin, k_eqB, k_eqA, k_not, k_neg, k_conv, k_alloc, k_boxA, k_boxI, k_boxB, k_boxN, k_boxBs, k_ldR, k_ldA, k_ldI, k_ldB, k_stA, k_stI, k_stB, ldC_some, stC_some, k_mkfn, k_slc, k_slcA, k_ixA, k_ixBs, k_ixSl, k_fadr, k_fld, k_ext, k_len, k_app, k_mn, k_mx, k_nilck, k_build, k_bsl1, k_bsl2, b_add, b_sub, b_mul, b_eql, b_neq, b_lss, b_leq, b_gtr, b_geq, Dn.setLast, Dn.getLast, evalO, mapO, Dn.get, putE, keepE_nil, keepE_cons, kp_some, kp_none, TV.one, TV.isAgg, Dn.part, k_boxR, negb, at0, at1, at2, at3, at4, dT, dF, wrapR_i64, Option.bind_some, Option.map_some, wn, c62, hnr, p1]

end Go.Proofs.Tryd.Dn

/-
  Knight: the reference's least numbers of steps.
-/

namespace Go.Proofs.Tryd.Dn
open Go.Dn

theorem fn33 {pg : Pg} (hF : Free pg) {r c a : Nat} (h : Brd r c) (ha : a < r * c) : PFn pg 33 [.i .i64 (r : Int), .i .i64 (c : Int), .i .i64 (a : Int)] (elI.lt false (nI (movR r c a))) := by
  obtain ⟨e, R', H', h1, h2, h3⟩ := l33_all (pg := pg) hF h ha (H0 := []) (r * c) 0 .nilsl [] [] (by omega) (by simp) (RowInv.nil [])
  simp only [List.drop_zero, List.nil_append, Int.natCast_zero] at h1 h3
  refine .inr ⟨hF.S _ _ (by decide), R', H', body_of (x := .ret) (e := [(6, R')]) (d := d33) (by rw [hF.F]; rfl) rfl ?_ (.inl rfl) rfl, h3.own.fin elI_flat⟩
  simp (disch := omega) [d33, c33, zipE, go_nil, go_last, go_past, go_pastR, go_blkN, go_blkR, go_blkE, go_skip, go_exit, go_ret, go_scope, go_seq, go_reg, go_regd, go_opdN, go_opd, go_opdG, grdd_b, grdd_u, stpd_some, find_some, go_block, go_cond, cnd_b, go_opsN, go_ops, go_opsG, grd_b, grd_u, stp_some, fin_some, up_some, cont_some, k_call, k_mv, k_pick, k_bin, k_eqB, k_eqA, k_not, k_neg, k_conv, k_alloc, k_boxA, k_boxI, k_boxB, k_boxN, k_boxBs, k_ldR, k_ldA, k_ldI, k_ldB, k_stA, k_stI, k_stB, ldC_some, stC_some, k_mkfn, k_slc, k_slcA, k_ixA, k_ixBs, k_ixSl, k_fadr, k_fld, k_ext, k_len, k_app, k_mn, k_mx, k_nilck, k_build, k_bsl1, k_bsl2, b_add, b_sub, b_mul, b_eql, b_neq, b_lss, b_leq, b_gtr, b_geq, Dn.setLast, Dn.getLast, evalO, mapO, Dn.get, putE, keepE_nil, keepE_cons, kp_some, kp_none, TV.one, TV.isAgg, Dn.part, k_boxR, negb, at0, at1, at2, at3, at4, dT, dF, wrapR_i64, Option.bind_some, Option.map_some, go_denK (c := l33_1) rfl, h1, h2]

theorem call33 {pg : Pg} (hF : Free pg) {r c a : Nat} (h : Brd r c) (ha : a < r * c) (H : Heap) : callRun pg (den pg) (.pu []) [.fn 33 [] [], .i .i64 (r : Int), .i .i64 (c : Int), .i .i64 (a : Int)] H = some (elI.lt false (nI (movR r c a)), H) :=
  PFn.call (fn33 hF h ha) (args := [.i .i64 (r : Int), .i .i64 (c : Int), .i .i64 (a : Int)]) (by simp [snapArgs, sn_i])

theorem nI_at {l : List Nat} {i x : Nat} (h : l[i]? = some x) : (nI l)[i]? = some (x : Int) := by unfold nI; rw [List.getElem?_map, h]; rfl

theorem movR_len (r c x : Nat) : (movR r c x).length ≤ r * c := by
  unfold movR
  exact Nat.le_trans (List.length_filter_le _ _) (by simp)

structure BM (H : Heap) (O Q : TV) (o : List Int) (q : List Nat) : Prop where
  arr : elI.Arr H O o
  que : Que H Q (nI q)
  ne : O.idOf ≠ Q.idOf

theorem getD_some {l : List Int} {x : Nat} (hx : x < l.length) : l[x]? = some (l.getD x 0) := by
  rw [List.getD_eq_getElem?_getD, List.getElem?_eq_getElem hx]; rfl

end Go.Proofs.Tryd.Dn

