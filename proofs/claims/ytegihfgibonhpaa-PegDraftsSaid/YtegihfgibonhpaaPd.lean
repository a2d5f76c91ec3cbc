/-
  Weights: whether numbers are weights.
-/
import Derived.Test.YtegihfgibonhpaaPc
set_option linter.unusedSimpArgs false
set_option linter.unusedVariables false

namespace Go.Proofs.Try.Dn
open Go.Dn

def okW (x : Int) : Bool := decide (-1000000 ≤ x) && decide (x ≤ 1000000)
def wts (n : Int) (w : List Int) : Bool := w.all okW && decide ((w.length : Int) = n)

theorem l33_round {pg : Pg} {H : Heap} {n : Int} {W : TV} {w : List Int} (hW : elI.View H W w) {i : Nat} {x : Int} (hx : w[i]? = some x) (hl : w.length ≤ 1000) :
    den pg l33_1 [(0, .i .i64 n), (1, W), (5, .i .i64 (i : Int))] H = if okW x then den pg l33_1 [(0, .i .i64 n), (1, W), (5, .i .i64 ((i + 1 : Nat) : Int))] H else some ⟨.ret, [(4, .b false)], H⟩ := by
  have hi := (List.getElem?_eq_some_iff.1 hx).1
  have e1 : ((i : Int) < (w.length : Int)) := by omega
  have e2 : wrapR .i64 ((i : Int) + 1) = .i .i64 ((i : Int) + 1) := wrapR_i64 (by omega)
  have hlen := hW.lenK
  obtain ⟨p, hp, hv⟩ := ixI (pg := pg) (R := den pg) hW hx
  by_cases h1 : x < -1000000
  · rw [if_neg (by simp [okW]; omega), l33_1, den_loop]
    simp [l33_1, b33_0, go_nil, go_last, go_past, go_pastR, go_blkN, go_blkR, go_blkE, go_skip, go_exit, go_ret, go_scope, go_seq, go_reg, go_block, go_cond, cnd_b, go_opsN, go_ops, go_opsG, grd_b, grd_u, stp_some, fin_some, up_some, cont_some, k_call, k_mv, k_pick, k_bin, k_eqB, k_eqA, k_not, k_neg, k_conv, k_alloc, k_boxA, k_boxI, k_boxB, k_boxN, k_boxBs, k_ldR, k_ldA, k_ldI, k_ldB, k_stA, k_stI, k_stB, ldC_some, stC_some, k_mkfn, k_slc, k_slcA, k_ixA, k_ixBs, k_ixSl, k_fadr, k_fld, k_ext, k_len, k_app, k_mn, k_mx, k_nilck, k_build, k_bsl1, k_bsl2, b_add, b_sub, b_mul, b_eql, b_neq, b_lss, b_leq, b_gtr, b_geq, Dn.setLast, Dn.getLast, evalO, mapO, Dn.get, putE, keepE, TV.one, TV.isAgg, Dn.part, hlen, e1, hp, hv, h1]
  · by_cases h2 : 1000000 < x
    · rw [if_neg (by simp [okW]; omega), l33_1, den_loop]
      simp [l33_1, b33_0, go_nil, go_last, go_past, go_pastR, go_blkN, go_blkR, go_blkE, go_skip, go_exit, go_ret, go_scope, go_seq, go_reg, go_block, go_cond, cnd_b, go_opsN, go_ops, go_opsG, grd_b, grd_u, stp_some, fin_some, up_some, cont_some, k_call, k_mv, k_pick, k_bin, k_eqB, k_eqA, k_not, k_neg, k_conv, k_alloc, k_boxA, k_boxI, k_boxB, k_boxN, k_boxBs, k_ldR, k_ldA, k_ldI, k_ldB, k_stA, k_stI, k_stB, ldC_some, stC_some, k_mkfn, k_slc, k_slcA, k_ixA, k_ixBs, k_ixSl, k_fadr, k_fld, k_ext, k_len, k_app, k_mn, k_mx, k_nilck, k_build, k_bsl1, k_bsl2, b_add, b_sub, b_mul, b_eql, b_neq, b_lss, b_leq, b_gtr, b_geq, Dn.setLast, Dn.getLast, evalO, mapO, Dn.get, putE, keepE, TV.one, TV.isAgg, Dn.part, hlen, e1, hp, hv, h1, h2]
    · rw [if_pos (by simp [okW]; omega), l33_1, den_loop]
      simp [l33_1, b33_0, go_nil, go_last, go_past, go_pastR, go_blkN, go_blkR, go_blkE, go_skip, go_exit, go_ret, go_scope, go_seq, go_reg, go_block, go_cond, cnd_b, go_opsN, go_ops, go_opsG, grd_b, grd_u, stp_some, fin_some, up_some, cont_some, k_call, k_mv, k_pick, k_bin, k_eqB, k_eqA, k_not, k_neg, k_conv, k_alloc, k_boxA, k_boxI, k_boxB, k_boxN, k_boxBs, k_ldR, k_ldA, k_ldI, k_ldB, k_stA, k_stI, k_stB, ldC_some, stC_some, k_mkfn, k_slc, k_slcA, k_ixA, k_ixBs, k_ixSl, k_fadr, k_fld, k_ext, k_len, k_app, k_mn, k_mx, k_nilck, k_build, k_bsl1, k_bsl2, b_add, b_sub, b_mul, b_eql, b_neq, b_lss, b_leq, b_gtr, b_geq, Dn.setLast, Dn.getLast, evalO, mapO, Dn.get, putE, keepE, TV.one, TV.isAgg, Dn.part, hlen, e1, e2, hp, hv, h1, h2]

theorem l33_all {pg : Pg} {H : Heap} {n : Int} {W : TV} {w : List Int} (hW : elI.View H W w) (hl : w.length ≤ 1000) : ∀ (k i : Nat), i + k = w.length →
    ∃ x e, den pg l33_1 [(0, .i .i64 n), (1, W), (5, .i .i64 (i : Int))] H = some ⟨x, e, H⟩ ∧ (x = .exit 0 ∧ get e 0 = some (.i .i64 n) ∧ get e 1 = some W ∧ (w.drop i).all okW = true ∨ x = .ret ∧ e = [(4, .b false)] ∧ (w.drop i).all okW = false)
  | 0, i, h => by
    have e1 : ¬ ((i : Int) < (w.length : Int)) := by omega
    have hlen := hW.lenK
    refine ⟨.exit 0, [(0, .i .i64 n), (1, W), (5, .i .i64 (i : Int)), (9, .b false)], ?_, .inl ⟨rfl, rfl, rfl, by rw [List.drop_eq_nil_of_le (by omega)]; rfl⟩⟩
    rw [l33_1, den_loop]
    simp [b33_0, go_nil, go_last, go_past, go_pastR, go_blkN, go_blkR, go_blkE, go_skip, go_exit, go_ret, go_scope, go_seq, go_reg, go_block, go_cond, cnd_b, go_opsN, go_ops, go_opsG, grd_b, grd_u, stp_some, fin_some, up_some, cont_some, k_call, k_mv, k_pick, k_bin, k_eqB, k_eqA, k_not, k_neg, k_conv, k_alloc, k_boxA, k_boxI, k_boxB, k_boxN, k_boxBs, k_ldR, k_ldA, k_ldI, k_ldB, k_stA, k_stI, k_stB, ldC_some, stC_some, k_mkfn, k_slc, k_slcA, k_ixA, k_ixBs, k_ixSl, k_fadr, k_fld, k_ext, k_len, k_app, k_mn, k_mx, k_nilck, k_build, k_bsl1, k_bsl2, b_add, b_sub, b_mul, b_eql, b_neq, b_lss, b_leq, b_gtr, b_geq, Dn.setLast, Dn.getLast, evalO, mapO, Dn.get, putE, keepE, TV.one, TV.isAgg, Dn.part, hlen, e1]
  | k + 1, i, h => by
    have hi : i < w.length := by omega
    have hr := l33_round (pg := pg) (n := n) hW (List.getElem?_eq_getElem hi) hl
    have hd : w.drop i = w[i] :: w.drop (i + 1) := List.drop_eq_getElem_cons hi
    rw [hd, List.all_cons]
    by_cases hok : okW w[i] = true
    · rw [if_pos hok] at hr
      obtain ⟨x, e, h1, h2⟩ := l33_all (n := n) hW hl k (i + 1) (by omega)
      exact ⟨x, e, hr.trans h1, by simpa [hok] using h2⟩
    · rw [if_neg hok] at hr
      exact ⟨_, _, hr, .inr ⟨rfl, rfl, by simp [hok]⟩⟩

theorem fn33 {pg : Pg} (hF : Free pg) {n : Int} {W : TV} {w : List Int} (hW : ∀ H, elI.View H W w) (hl : w.length ≤ 1000) : Fn pg 33 [.i .i64 n, W] (.b (wts n w)) := by
  obtain ⟨x, e, h1, h2⟩ := l33_all (pg := pg) (n := n) (hW []) hl w.length 0 (by omega)
  simp only [Int.natCast_zero, List.drop_zero] at h1 h2
  have hlen := fun H => (hW H).lenK H
  rcases h2 with ⟨rfl, h2, h3, h4⟩ | ⟨rfl, rfl, h4⟩
  · refine .of1 (x := .ret) (e := [(4, .b (wts n w))]) (H' := []) (hF.S _ _ (by decide)) (d := d33) (by rw [hF.F]; rfl) rfl ?_ (.inl rfl) rfl (by simp [sn_i, sn_b, sn_nil, sn8_i, sn8_b, sn8_nil, sn7_i, sn7_b, sn_sl, sn8_sl, slB_some, sn_tup, sn_agg, sn8_agg, mapO, elems])
    have hb : ((w.length : Int) == n) = decide ((w.length : Int) = n) := by rw [Bool.eq_iff_iff]; simp
    simp [d33, c33, zipE, go_nil, go_last, go_past, go_pastR, go_blkN, go_blkR, go_blkE, go_skip, go_exit, go_ret, go_scope, go_seq, go_reg, go_block, go_cond, cnd_b, go_opsN, go_ops, go_opsG, grd_b, grd_u, stp_some, fin_some, up_some, cont_some, k_call, k_mv, k_pick, k_bin, k_eqB, k_eqA, k_not, k_neg, k_conv, k_alloc, k_boxA, k_boxI, k_boxB, k_boxN, k_boxBs, k_ldR, k_ldA, k_ldI, k_ldB, k_stA, k_stI, k_stB, ldC_some, stC_some, k_mkfn, k_slc, k_slcA, k_ixA, k_ixBs, k_ixSl, k_fadr, k_fld, k_ext, k_len, k_app, k_mn, k_mx, k_nilck, k_build, k_bsl1, k_bsl2, b_add, b_sub, b_mul, b_eql, b_neq, b_lss, b_leq, b_gtr, b_geq, Dn.setLast, Dn.getLast, evalO, mapO, Dn.get, putE, keepE, TV.one, TV.isAgg, Dn.part, go_den l33_1, h1, h2, h3, hlen, wts, h4, hb]
  · refine .of1 (x := .ret) (e := [(4, .b (wts n w))]) (H' := []) (hF.S _ _ (by decide)) (d := d33) (by rw [hF.F]; rfl) rfl ?_ (.inl rfl) rfl (by simp [sn_i, sn_b, sn_nil, sn8_i, sn8_b, sn8_nil, sn7_i, sn7_b, sn_sl, sn8_sl, slB_some, sn_tup, sn_agg, sn8_agg, mapO, elems])
    simp [d33, c33, zipE, go_nil, go_last, go_past, go_pastR, go_blkN, go_blkR, go_blkE, go_skip, go_exit, go_ret, go_scope, go_seq, go_reg, go_block, go_cond, cnd_b, go_opsN, go_ops, go_opsG, grd_b, grd_u, stp_some, fin_some, up_some, cont_some, k_call, k_mv, k_pick, k_bin, k_eqB, k_eqA, k_not, k_neg, k_conv, k_alloc, k_boxA, k_boxI, k_boxB, k_boxN, k_boxBs, k_ldR, k_ldA, k_ldI, k_ldB, k_stA, k_stI, k_stB, ldC_some, stC_some, k_mkfn, k_slc, k_slcA, k_ixA, k_ixBs, k_ixSl, k_fadr, k_fld, k_ext, k_len, k_app, k_mn, k_mx, k_nilck, k_build, k_bsl1, k_bsl2, b_add, b_sub, b_mul, b_eql, b_neq, b_lss, b_leq, b_gtr, b_geq, Dn.setLast, Dn.getLast, evalO, mapO, Dn.get, putE, keepE, TV.one, TV.isAgg, Dn.part, go_den l33_1, h1, wts, h4]

def minF : List Int → Int → Int
  | [], a => a
  | x :: l, a => minF l (if x < a then x else a)
def maxF : List Int → Int → Int
  | [], a => a
  | x :: l, a => maxF l (if a < x then x else a)

theorem minF_ge (b : Int) : ∀ (l : List Int) (a : Int), b ≤ minF l a ↔ b ≤ a ∧ ∀ x ∈ l, b ≤ x
  | [], a => by simp [minF]
  | x :: l, a => by
    rw [minF, minF_ge b l]
    simp only [List.mem_cons, forall_eq_or_imp]
    split <;> constructor <;> intro h <;> refine ⟨?_, ?_⟩ <;> first | omega | exact h.2 | exact h.2.2 | (refine ⟨by omega, h.2⟩)

theorem maxF_le (b : Int) : ∀ (l : List Int) (a : Int), maxF l a ≤ b ↔ a ≤ b ∧ ∀ x ∈ l, x ≤ b
  | [], a => by simp [maxF]
  | x :: l, a => by
    rw [maxF, maxF_le b l]
    simp only [List.mem_cons, forall_eq_or_imp]
    split <;> constructor <;> intro h <;> refine ⟨?_, ?_⟩ <;> first | omega | exact h.2 | exact h.2.2 | (refine ⟨by omega, h.2⟩)

theorem l75_all {pg : Pg} {H : Heap} {W : TV} {w : List Int} (hW : elI.View H W w) (hl : w.length ≤ 1000) : ∀ (k i : Nat) (a : Int), i + k = w.length →
    ∃ e, den pg l75_1 [(0, W), (3, .i .i64 a), (4, .i .i64 (i : Int))] H = some ⟨.exit 0, e, H⟩ ∧ get e 3 = some (.i .i64 (minF (w.drop i) a))
  | 0, i, a, h => by
    have e1 : ¬ ((i : Int) < (w.length : Int)) := by omega
    have hlen := hW.lenK
    refine ⟨[(0, W), (3, .i .i64 a), (4, .i .i64 (i : Int)), (15, .b false)], ?_, by rw [List.drop_eq_nil_of_le (by omega)]; rfl⟩
    rw [l75_1, den_loop]
    simp [b75_0, go_nil, go_last, go_past, go_pastR, go_blkN, go_blkR, go_blkE, go_skip, go_exit, go_ret, go_scope, go_seq, go_reg, go_block, go_cond, cnd_b, go_opsN, go_ops, go_opsG, grd_b, grd_u, stp_some, fin_some, up_some, cont_some, k_call, k_mv, k_pick, k_bin, k_eqB, k_eqA, k_not, k_neg, k_conv, k_alloc, k_boxA, k_boxI, k_boxB, k_boxN, k_boxBs, k_ldR, k_ldA, k_ldI, k_ldB, k_stA, k_stI, k_stB, ldC_some, stC_some, k_mkfn, k_slc, k_slcA, k_ixA, k_ixBs, k_ixSl, k_fadr, k_fld, k_ext, k_len, k_app, k_mn, k_mx, k_nilck, k_build, k_bsl1, k_bsl2, b_add, b_sub, b_mul, b_eql, b_neq, b_lss, b_leq, b_gtr, b_geq, Dn.setLast, Dn.getLast, evalO, mapO, Dn.get, putE, keepE, TV.one, TV.isAgg, Dn.part, hlen, e1]
  | k + 1, i, a, h => by
    have hi : i < w.length := by omega
    have e1 : ((i : Int) < (w.length : Int)) := by omega
    have e2 : wrapR .i64 ((i : Int) + 1) = .i .i64 ((i : Int) + 1) := wrapR_i64 (by omega)
    have hlen := hW.lenK
    obtain ⟨p, hp, hv⟩ := ixI (pg := pg) (R := den pg) hW (List.getElem?_eq_getElem hi)
    have hd : w.drop i = w[i] :: w.drop (i + 1) := List.drop_eq_getElem_cons hi
    obtain ⟨e, h1, h2⟩ := l75_all (pg := pg) hW hl k (i + 1) (if w[i] < a then w[i] else a) (by omega)
    refine ⟨e, Eq.trans ?_ h1, by rw [hd]; exact h2⟩
    rw [l75_1, den_loop]
    simp [l75_1, b75_0, go_nil, go_last, go_past, go_pastR, go_blkN, go_blkR, go_blkE, go_skip, go_exit, go_ret, go_scope, go_seq, go_reg, go_block, go_cond, cnd_b, go_opsN, go_ops, go_opsG, grd_b, grd_u, stp_some, fin_some, up_some, cont_some, k_call, k_mv, k_pick, k_bin, k_eqB, k_eqA, k_not, k_neg, k_conv, k_alloc, k_boxA, k_boxI, k_boxB, k_boxN, k_boxBs, k_ldR, k_ldA, k_ldI, k_ldB, k_stA, k_stI, k_stB, ldC_some, stC_some, k_mkfn, k_slc, k_slcA, k_ixA, k_ixBs, k_ixSl, k_fadr, k_fld, k_ext, k_len, k_app, k_mn, k_mx, k_nilck, k_build, k_bsl1, k_bsl2, b_add, b_sub, b_mul, b_eql, b_neq, b_lss, b_leq, b_gtr, b_geq, Dn.setLast, Dn.getLast, evalO, mapO, Dn.get, putE, keepE, TV.one, TV.isAgg, Dn.part, hlen, e1, e2, hp, hv]

theorem l76_all {pg : Pg} {H : Heap} {W : TV} {w : List Int} (hW : elI.View H W w) (hl : w.length ≤ 1000) : ∀ (k i : Nat) (a : Int), i + k = w.length →
    ∃ e, den pg l76_1 [(0, W), (3, .i .i64 a), (4, .i .i64 (i : Int))] H = some ⟨.exit 0, e, H⟩ ∧ get e 3 = some (.i .i64 (maxF (w.drop i) a))
  | 0, i, a, h => by
    have e1 : ¬ ((i : Int) < (w.length : Int)) := by omega
    have hlen := hW.lenK
    refine ⟨[(0, W), (3, .i .i64 a), (4, .i .i64 (i : Int)), (15, .b false)], ?_, by rw [List.drop_eq_nil_of_le (by omega)]; rfl⟩
    rw [l76_1, den_loop]
    simp [b76_0, go_nil, go_last, go_past, go_pastR, go_blkN, go_blkR, go_blkE, go_skip, go_exit, go_ret, go_scope, go_seq, go_reg, go_block, go_cond, cnd_b, go_opsN, go_ops, go_opsG, grd_b, grd_u, stp_some, fin_some, up_some, cont_some, k_call, k_mv, k_pick, k_bin, k_eqB, k_eqA, k_not, k_neg, k_conv, k_alloc, k_boxA, k_boxI, k_boxB, k_boxN, k_boxBs, k_ldR, k_ldA, k_ldI, k_ldB, k_stA, k_stI, k_stB, ldC_some, stC_some, k_mkfn, k_slc, k_slcA, k_ixA, k_ixBs, k_ixSl, k_fadr, k_fld, k_ext, k_len, k_app, k_mn, k_mx, k_nilck, k_build, k_bsl1, k_bsl2, b_add, b_sub, b_mul, b_eql, b_neq, b_lss, b_leq, b_gtr, b_geq, Dn.setLast, Dn.getLast, evalO, mapO, Dn.get, putE, keepE, TV.one, TV.isAgg, Dn.part, hlen, e1]
  | k + 1, i, a, h => by
    have hi : i < w.length := by omega
    have e1 : ((i : Int) < (w.length : Int)) := by omega
    have e2 : wrapR .i64 ((i : Int) + 1) = .i .i64 ((i : Int) + 1) := wrapR_i64 (by omega)
    have hlen := hW.lenK
    obtain ⟨p, hp, hv⟩ := ixI (pg := pg) (R := den pg) hW (List.getElem?_eq_getElem hi)
    have hd : w.drop i = w[i] :: w.drop (i + 1) := List.drop_eq_getElem_cons hi
    obtain ⟨e, h1, h2⟩ := l76_all (pg := pg) hW hl k (i + 1) (if a < w[i] then w[i] else a) (by omega)
    refine ⟨e, Eq.trans ?_ h1, by rw [hd]; exact h2⟩
    rw [l76_1, den_loop]
    simp [l76_1, b76_0, go_nil, go_last, go_past, go_pastR, go_blkN, go_blkR, go_blkE, go_skip, go_exit, go_ret, go_scope, go_seq, go_reg, go_block, go_cond, cnd_b, go_opsN, go_ops, go_opsG, grd_b, grd_u, stp_some, fin_some, up_some, cont_some, k_call, k_mv, k_pick, k_bin, k_eqB, k_eqA, k_not, k_neg, k_conv, k_alloc, k_boxA, k_boxI, k_boxB, k_boxN, k_boxBs, k_ldR, k_ldA, k_ldI, k_ldB, k_stA, k_stI, k_stB, ldC_some, stC_some, k_mkfn, k_slc, k_slcA, k_ixA, k_ixBs, k_ixSl, k_fadr, k_fld, k_ext, k_len, k_app, k_mn, k_mx, k_nilck, k_build, k_bsl1, k_bsl2, b_add, b_sub, b_mul, b_eql, b_neq, b_lss, b_leq, b_gtr, b_geq, Dn.setLast, Dn.getLast, evalO, mapO, Dn.get, putE, keepE, TV.one, TV.isAgg, Dn.part, hlen, e1, e2, hp, hv]

theorem fn75 {pg : Pg} (hF : Free pg) {W : TV} {x : Int} {w : List Int} (hW : ∀ H, elI.View H W (x :: w)) (hl : w.length < 1000) : Fn pg 75 [W] (.i .i64 (minF w x)) := by
  have hlen := fun H => (hW H).lenK H
  obtain ⟨p, hp, hv⟩ := ixI (pg := pg) (R := den pg) (hW []) (i := 0) (x := x) rfl
  obtain ⟨e, h1, h2⟩ := l75_all (pg := pg) (hW []) (by simp; omega) w.length 1 x (by simp; omega)
  simp only [Int.natCast_one, Int.natCast_zero, List.drop_succ_cons, List.drop_zero] at h1 h2 hp
  have e1 : ¬ ((((x :: w).length : Nat) : Int) < 1) := by simp only [List.length_cons]; omega
  refine .of1 (x := .ret) (e := [(2, .i .i64 (minF w x))]) (H' := []) (hF.S _ _ (by decide)) (d := d75) (by rw [hF.F]; rfl) rfl ?_ (.inl rfl) rfl (by simp [sn_i, sn_b, sn_nil, sn8_i, sn8_b, sn8_nil, sn7_i, sn7_b, sn_sl, sn8_sl, slB_some, sn_tup, sn_agg, sn8_agg, mapO, elems])
  simp [d75, c75, zipE, go_nil, go_last, go_past, go_pastR, go_blkN, go_blkR, go_blkE, go_skip, go_exit, go_ret, go_scope, go_seq, go_reg, go_block, go_cond, cnd_b, go_opsN, go_ops, go_opsG, grd_b, grd_u, stp_some, fin_some, up_some, cont_some, k_call, k_mv, k_pick, k_bin, k_eqB, k_eqA, k_not, k_neg, k_conv, k_alloc, k_boxA, k_boxI, k_boxB, k_boxN, k_boxBs, k_ldR, k_ldA, k_ldI, k_ldB, k_stA, k_stI, k_stB, ldC_some, stC_some, k_mkfn, k_slc, k_slcA, k_ixA, k_ixBs, k_ixSl, k_fadr, k_fld, k_ext, k_len, k_app, k_mn, k_mx, k_nilck, k_build, k_bsl1, k_bsl2, b_add, b_sub, b_mul, b_eql, b_neq, b_lss, b_leq, b_gtr, b_geq, Dn.setLast, Dn.getLast, evalO, mapO, Dn.get, putE, keepE, TV.one, TV.isAgg, Dn.part, go_den l75_1, h1, h2, hlen, hp, hv]
  intro h; omega

theorem fn76 {pg : Pg} (hF : Free pg) {W : TV} {x : Int} {w : List Int} (hW : ∀ H, elI.View H W (x :: w)) (hl : w.length < 1000) : Fn pg 76 [W] (.i .i64 (maxF w x)) := by
  have hlen := fun H => (hW H).lenK H
  obtain ⟨p, hp, hv⟩ := ixI (pg := pg) (R := den pg) (hW []) (i := 0) (x := x) rfl
  obtain ⟨e, h1, h2⟩ := l76_all (pg := pg) (hW []) (by simp; omega) w.length 1 x (by simp; omega)
  simp only [Int.natCast_one, Int.natCast_zero, List.drop_succ_cons, List.drop_zero] at h1 h2 hp
  have e1 : ¬ ((((x :: w).length : Nat) : Int) < 1) := by simp only [List.length_cons]; omega
  refine .of1 (x := .ret) (e := [(2, .i .i64 (maxF w x))]) (H' := []) (hF.S _ _ (by decide)) (d := d76) (by rw [hF.F]; rfl) rfl ?_ (.inl rfl) rfl (by simp [sn_i, sn_b, sn_nil, sn8_i, sn8_b, sn8_nil, sn7_i, sn7_b, sn_sl, sn8_sl, slB_some, sn_tup, sn_agg, sn8_agg, mapO, elems])
  simp [d76, c76, zipE, go_nil, go_last, go_past, go_pastR, go_blkN, go_blkR, go_blkE, go_skip, go_exit, go_ret, go_scope, go_seq, go_reg, go_block, go_cond, cnd_b, go_opsN, go_ops, go_opsG, grd_b, grd_u, stp_some, fin_some, up_some, cont_some, k_call, k_mv, k_pick, k_bin, k_eqB, k_eqA, k_not, k_neg, k_conv, k_alloc, k_boxA, k_boxI, k_boxB, k_boxN, k_boxBs, k_ldR, k_ldA, k_ldI, k_ldB, k_stA, k_stI, k_stB, ldC_some, stC_some, k_mkfn, k_slc, k_slcA, k_ixA, k_ixBs, k_ixSl, k_fadr, k_fld, k_ext, k_len, k_app, k_mn, k_mx, k_nilck, k_build, k_bsl1, k_bsl2, b_add, b_sub, b_mul, b_eql, b_neq, b_lss, b_leq, b_gtr, b_geq, Dn.setLast, Dn.getLast, evalO, mapO, Dn.get, putE, keepE, TV.one, TV.isAgg, Dn.part, go_den l76_1, h1, h2, hlen, hp, hv]
  intro h; omega

/-- weights, as a value passed by value -/
def WT (b : Bool) (w : List Int) : TV := elI.lt b w

theorem WT_view (b : Bool) (w : List Int) (H : Heap) : elI.View H (WT b w) w := El.lt_view b w H
theorem WT_snap (b : Bool) (w : List Int) (H : Heap) : snap .borrow H 9 (WT b w) = some (WT true w) := El.lt_snap elI_flat b w H

theorem fn58 {pg : Pg} (hF : Free pg) {n : Int} {w : List Int} (hn : 1 ≤ n) (hl : w.length ≤ 100) : Fn pg 58 [.i .i64 n, WT true w] (.b (wts n w)) := by
  have hlen := fun H => (WT_view true w H).lenK H
  refine .of1 (x := .ret) (e := [(4, .b (wts n w))]) (H' := []) (hF.S _ _ (by decide)) (d := d58) (by rw [hF.F]; rfl) rfl ?_ (.inl rfl) rfl (by simp [sn_i, sn_b, sn_nil, sn8_i, sn8_b, sn8_nil, sn7_i, sn7_b, sn_sl, sn8_sl, slB_some, sn_tup, sn_agg, sn8_agg, mapO, elems])
  by_cases h1 : (w.length : Int) = n
  · have h1' : ((w.length : Int) == n) = true := by simp [h1]
    cases w with
    | nil => simp at h1; omega
    | cons x w =>
      have c75 := fun H => Fn.call (fn75 hF (W := WT true (x :: w)) (fun H => WT_view true _ H) (by simp at hl; omega)) (args := [WT true (x :: w)]) (ks := []) (fs := []) (cs := []) (H := H) (by simp [snapArgs, WT_snap])
      have c76 := fun H => Fn.call (fn76 hF (W := WT true (x :: w)) (fun H => WT_view true _ H) (by simp at hl; omega)) (args := [WT true (x :: w)]) (ks := []) (fs := []) (cs := []) (H := H) (by simp [snapArgs, WT_snap])
      have hw : wts n (x :: w) = (decide (-1000000 ≤ minF w x) && decide (maxF w x ≤ 1000000)) := by
        rw [Bool.eq_iff_iff]
        simp only [wts, h1, decide_true, Bool.and_true, Bool.and_eq_true, decide_eq_true_eq, minF_ge, maxF_le, List.all_eq_true, okW, List.mem_cons, forall_eq_or_imp]
        constructor
        · intro ⟨⟨a, b⟩, c⟩
          exact ⟨⟨a, fun y hy => (c y hy).1⟩, b, fun y hy => (c y hy).2⟩
        · intro ⟨⟨a, b⟩, c, d⟩
          exact ⟨⟨a, c⟩, fun y hy => ⟨b y hy, d y hy⟩⟩
      have h1'' : (w.length : Int) + 1 = n := by simpa using h1
      by_cases h2 : -1000000 ≤ minF w x
      · simp [d58, c58, zipE, go_nil, go_last, go_past, go_pastR, go_blkN, go_blkR, go_blkE, go_skip, go_exit, go_ret, go_scope, go_seq, go_reg, go_block, go_cond, cnd_b, go_opsN, go_ops, go_opsG, grd_b, grd_u, stp_some, fin_some, up_some, cont_some, k_call, k_mv, k_pick, k_bin, k_eqB, k_eqA, k_not, k_neg, k_conv, k_alloc, k_boxA, k_boxI, k_boxB, k_boxN, k_boxBs, k_ldR, k_ldA, k_ldI, k_ldB, k_stA, k_stI, k_stB, ldC_some, stC_some, k_mkfn, k_slc, k_slcA, k_ixA, k_ixBs, k_ixSl, k_fadr, k_fld, k_ext, k_len, k_app, k_mn, k_mx, k_nilck, k_build, k_bsl1, k_bsl2, b_add, b_sub, b_mul, b_eql, b_neq, b_lss, b_leq, b_gtr, b_geq, Dn.setLast, Dn.getLast, evalO, mapO, Dn.get, putE, keepE, TV.one, TV.isAgg, Dn.part, hlen, c75, c76, h1'', h2, hw]
      · simp [d58, c58, zipE, go_nil, go_last, go_past, go_pastR, go_blkN, go_blkR, go_blkE, go_skip, go_exit, go_ret, go_scope, go_seq, go_reg, go_block, go_cond, cnd_b, go_opsN, go_ops, go_opsG, grd_b, grd_u, stp_some, fin_some, up_some, cont_some, k_call, k_mv, k_pick, k_bin, k_eqB, k_eqA, k_not, k_neg, k_conv, k_alloc, k_boxA, k_boxI, k_boxB, k_boxN, k_boxBs, k_ldR, k_ldA, k_ldI, k_ldB, k_stA, k_stI, k_stB, ldC_some, stC_some, k_mkfn, k_slc, k_slcA, k_ixA, k_ixBs, k_ixSl, k_fadr, k_fld, k_ext, k_len, k_app, k_mn, k_mx, k_nilck, k_build, k_bsl1, k_bsl2, b_add, b_sub, b_mul, b_eql, b_neq, b_lss, b_leq, b_gtr, b_geq, Dn.setLast, Dn.getLast, evalO, mapO, Dn.get, putE, keepE, TV.one, TV.isAgg, Dn.part, hlen, c75, c76, h1'', h2, hw]
  · have h1' : ((w.length : Int) == n) = false := by simp [h1]
    have hw : wts n w = false := by simp [wts, h1]
    simp [d58, c58, zipE, go_nil, go_last, go_past, go_pastR, go_blkN, go_blkR, go_blkE, go_skip, go_exit, go_ret, go_scope, go_seq, go_reg, go_block, go_cond, cnd_b, go_opsN, go_ops, go_opsG, grd_b, grd_u, stp_some, fin_some, up_some, cont_some, k_call, k_mv, k_pick, k_bin, k_eqB, k_eqA, k_not, k_neg, k_conv, k_alloc, k_boxA, k_boxI, k_boxB, k_boxN, k_boxBs, k_ldR, k_ldA, k_ldI, k_ldB, k_stA, k_stI, k_stB, ldC_some, stC_some, k_mkfn, k_slc, k_slcA, k_ixA, k_ixBs, k_ixSl, k_fadr, k_fld, k_ext, k_len, k_app, k_mn, k_mx, k_nilck, k_build, k_bsl1, k_bsl2, b_add, b_sub, b_mul, b_eql, b_neq, b_lss, b_leq, b_gtr, b_geq, Dn.setLast, Dn.getLast, evalO, mapO, Dn.get, putE, keepE, TV.one, TV.isAgg, Dn.part, hlen, h1', hw]

end Go.Proofs.Try.Dn

/-
  Weights: whether weights are a pagoda.
-/

namespace Go.Proofs.Try.Dn
open Go.Dn

/-- the number at a place -/
def wAt (w : List Int) (a : Int) : Int := w.getD a.toNat 0

theorem wAt_some {w : List Int} {a : Int} (h0 : 0 ≤ a) (h1 : a < w.length) : w[a.toNat]? = some (wAt w a) := by
  unfold wAt
  rw [List.getD_eq_getElem?_getD, List.getElem?_eq_getElem (by omega)]
  rfl

theorem ixI' {pg : Pg} {R : Rec} {H : Heap} {t : TV} {l : List Int} (h : elI.View H t l) {a : Int} (h0 : 0 ≤ a) (h1 : a < l.length) : ∃ p, dkc pg R (.ixS 1 false) [t, .i .i64 a] H = some (p, H) ∧ dkc pg R (.ld 1 false) [p] H = some (.i .i64 (wAt l a), H) := by
  obtain ⟨p, hp, hv⟩ := ixI (pg := pg) (R := R) h (wAt_some h0 h1)
  refine ⟨p, ?_, hv⟩
  rwa [show ((a.toNat : Nat) : Int) = a by omega] at hp

/-- all holes of a line are holes of a board -/
def Fits (n : Int) (x : Line) : Prop := 0 ≤ x.1 ∧ x.1 < n ∧ 0 ≤ x.2.1 ∧ x.2.1 < n ∧ 0 ≤ x.2.2 ∧ x.2.2 < n ∧ x.1 < x.2.2 ∧ x.2.1 ≠ x.1 ∧ x.2.1 ≠ x.2.2

theorem fits_of {n : Int} {x : Line} (h : lineBad n x = false) : Fits n x := by
  simp [lineBad] at h
  unfold Fits
  omega

theorem fits_from {n : Int} : ∀ {l : List Line} {p : Option Line}, chkFrom n p l = 0 → ∀ x ∈ l, Fits n x
  | [], p, h, x, hx => by cases hx
  | y :: l, p, h, x, hx => by
    rw [chkFrom_cons] at h
    split at h
    · cases h
    · rename_i hb
      simp at hb
      rcases List.mem_cons.1 hx with rfl | hx
      · exact fits_of hb.1
      · exact fits_from h x hx

theorem chk_ok {n : Int} {l : List Line} (h : chk n l = 0) : 1 ≤ n ∧ n ≤ 16 ∧ l.length ≤ 40 ∧ ∀ x ∈ l, Fits n x := by
  unfold chk at h
  split at h
  · cases h
  · split at h
    · cases h
    · exact ⟨by omega, by omega, by omega, fits_from h⟩

/-- a jump's holes -/
def FitsJ (n : Int) (x : Line) : Prop := 0 ≤ x.1 ∧ x.1 < n ∧ 0 ≤ x.2.1 ∧ x.2.1 < n ∧ 0 ≤ x.2.2 ∧ x.2.2 < n ∧ x.1 ≠ x.2.2 ∧ x.2.1 ≠ x.1 ∧ x.2.1 ≠ x.2.2

theorem js_fits {n : Int} : ∀ {l : List Line}, (∀ x ∈ l, Fits n x) → ∀ x ∈ js l, FitsJ n x
  | [], h, x, hx => by cases hx
  | y :: l, h, x, hx => by
    have hy := h y (by simp)
    simp only [js, List.mem_cons] at hx
    rcases hx with rfl | rfl | hx
    · unfold Fits at hy; unfold FitsJ; omega
    · unfold Fits at hy; unfold FitsJ rev; dsimp only; omega
    · exact js_fits (fun z hz => h z (by simp [hz])) x hx

/-- no jump gains -/
def jumpOk (w : List Int) (j : Line) : Bool := decide (wAt w j.2.2 ≤ wAt w j.1 + wAt w j.2.1)

theorem wAt_ok {w : List Int} (h : w.all okW = true) (a : Int) : -1000000 ≤ wAt w a ∧ wAt w a ≤ 1000000 := by
  unfold wAt
  rw [List.getD_eq_getElem?_getD]
  cases hg : w[a.toNat]? with
  | none => simp
  | some v =>
    have := List.all_eq_true.1 h v (List.mem_of_getElem? hg)
    simp [okW] at this
    simpa using this

theorem fn62 {pg : Pg} (hF : Free pg) (b : Bool) (l : List Line) (H : Heap) : bodyRun pg (den pg) 62 [LT b l] H = some (.fn 77 [] [.ref H.length 0], H ++ [.cells [LT b l] false]) := by
  refine body_of (x := .ret) (e := [(2, .fn 77 [] [.ref H.length 0])]) (d := d62) (by rw [hF.F]; rfl) rfl ?_ (.inl rfl) rfl
  rcases LT_cases b l with ⟨h, h2⟩ | ⟨h, h2⟩
  · rw [h2]; simp [d62, c62, zipE, go_nil, go_last, go_past, go_pastR, go_blkN, go_blkR, go_blkE, go_skip, go_exit, go_ret, go_scope, go_seq, go_reg, go_block, go_cond, cnd_b, go_opsN, go_ops, go_opsG, grd_b, grd_u, stp_some, fin_some, up_some, cont_some, k_call, k_mv, k_pick, k_bin, k_eqB, k_eqA, k_not, k_neg, k_conv, k_alloc, k_boxA, k_boxI, k_boxB, k_boxN, k_boxBs, k_ldR, k_ldA, k_ldI, k_ldB, k_stA, k_stI, k_stB, ldC_some, stC_some, k_mkfn, k_slc, k_slcA, k_ixA, k_ixBs, k_ixSl, k_fadr, k_fld, k_ext, k_len, k_app, k_mn, k_mx, k_nilck, k_build, k_bsl1, k_bsl2, b_add, b_sub, b_mul, b_eql, b_neq, b_lss, b_leq, b_gtr, b_geq, Dn.setLast, Dn.getLast, evalO, mapO, Dn.get, putE, keepE, TV.one, TV.isAgg, Dn.part, k_mkfn]
  · rw [h2]; simp [d62, c62, zipE, go_nil, go_last, go_past, go_pastR, go_blkN, go_blkR, go_blkE, go_skip, go_exit, go_ret, go_scope, go_seq, go_reg, go_block, go_cond, cnd_b, go_opsN, go_ops, go_opsG, grd_b, grd_u, stp_some, fin_some, up_some, cont_some, k_call, k_mv, k_pick, k_bin, k_eqB, k_eqA, k_not, k_neg, k_conv, k_alloc, k_boxA, k_boxI, k_boxB, k_boxN, k_boxBs, k_ldR, k_ldA, k_ldI, k_ldB, k_stA, k_stI, k_stB, ldC_some, stC_some, k_mkfn, k_slc, k_slcA, k_ixA, k_ixBs, k_ixSl, k_fadr, k_fld, k_ext, k_len, k_app, k_mn, k_mx, k_nilck, k_build, k_bsl1, k_bsl2, b_add, b_sub, b_mul, b_eql, b_neq, b_lss, b_leq, b_gtr, b_geq, Dn.setLast, Dn.getLast, evalO, mapO, Dn.get, putE, keepE, TV.one, TV.isAgg, Dn.part, k_mkfn]

/-- the loop of isPagoda, as an object -/
def L59 : ALoop := { env := [(3, .ref 0 0), (4, .ref 1 0)], params := [9, 10], assign := a59_0, body := b59_1, st := .ready, pend := none }

theorem ld_box {pg : Pg} {R : Rec} {H : Heap} {id : Nat} {t : TV} (h : H[id]? = some (.cells [t] false)) (ht : t.isAgg = false) : dkc pg R (.ld 1 false) [.ref id 0] H = some (t, H) := by
  rw [k_ldR, h, ldC_some, part_one rfl ht]; rfl

theorem WT_noagg (b : Bool) (w : List Int) : (WT b w).isAgg = false := by cases w <;> rfl

theorem b59_ok {pg : Pg} {w : List Int} {HB : Heap} {m : Nat} {j : Line} {n : Int} (hw : wts n w = true) (hfit : FitsJ n j) (h0 : HB[0]? = some (.cells [WT true w] false)) (hm : HB[m]? = some (cl j)) :
    (jumpOk w j = true → ∃ e2, den pg b59_1 [(3, .ref 0 0), (4, .ref 1 0), (6, .ref m 0)] HB = some ⟨.normal, e2, HB⟩) ∧
    (jumpOk w j = false → ∀ v, HB[1]? = some (.cells [v] false) → ∃ e2, den pg b59_1 [(3, .ref 0 0), (4, .ref 1 0), (6, .ref m 0)] HB = some ⟨.ret, e2, HB.set 1 (.cells [.b false] false)⟩) := by
  have hwn : (w.length : Int) = n := by simp [wts] at hw; exact hw.2
  have hwo : w.all okW = true := by simp [wts] at hw; simpa using hw.1
  obtain ⟨f1, f2, f3, f4, f5, f6, _⟩ := hfit
  have hbox := ld_box (pg := pg) (R := den pg) h0 (WT_noagg true w)
  obtain ⟨p1, hp1, hv1⟩ := ixI' (pg := pg) (R := den pg) (WT_view true w HB) f1 (by omega)
  obtain ⟨p2, hp2, hv2⟩ := ixI' (pg := pg) (R := den pg) (WT_view true w HB) f3 (by omega)
  obtain ⟨p3, hp3, hv3⟩ := ixI' (pg := pg) (R := den pg) (WT_view true w HB) f5 (by omega)
  have o1 := wAt_ok hwo j.1
  have o2 := wAt_ok hwo j.2.1
  have ha : wrapR .i64 (wAt w j.1 + wAt w j.2.1) = .i .i64 (wAt w j.1 + wAt w j.2.1) := wrapR_i64 (by omega)
  have hm0 : dkc pg (den pg) (.ld 1 false) [.ref m 0] HB = some (.i .i64 j.1, HB) := by rw [k_ldR, hm]; rfl
  have hm1 : dkc pg (den pg) (.ld 1 false) [.ref m 1] HB = some (.i .i64 j.2.1, HB) := by rw [k_ldR, hm]; rfl
  have hm2 : dkc pg (den pg) (.ld 1 false) [.ref m 2] HB = some (.i .i64 j.2.2, HB) := by rw [k_ldR, hm]; rfl
  constructor
  · intro hok
    have hlt : ¬ wAt w j.1 + wAt w j.2.1 < wAt w j.2.2 := by simp [jumpOk] at hok; omega
    refine ⟨[(4, .ref 1 0), (27, .b false)], ?_⟩
    rw [den_eq, runC_go]
    simp [b59_1, go_nil, go_last, go_past, go_pastR, go_blkN, go_blkR, go_blkE, go_skip, go_exit, go_ret, go_scope, go_seq, go_reg, go_block, go_cond, cnd_b, go_opsN, go_ops, go_opsG, grd_b, grd_u, stp_some, fin_some, up_some, cont_some, k_call, k_mv, k_pick, k_bin, k_eqB, k_eqA, k_not, k_neg, k_conv, k_alloc, k_boxA, k_boxI, k_boxB, k_boxN, k_boxBs, k_ldR, k_ldA, k_ldI, k_ldB, k_stA, k_stI, k_stB, ldC_some, stC_some, k_mkfn, k_slc, k_slcA, k_ixA, k_ixBs, k_ixSl, k_fadr, k_fld, k_ext, k_len, k_app, k_mn, k_mx, k_nilck, k_build, k_bsl1, k_bsl2, b_add, b_sub, b_mul, b_eql, b_neq, b_lss, b_leq, b_gtr, b_geq, Dn.setLast, Dn.getLast, evalO, mapO, Dn.get, putE, keepE, TV.one, TV.isAgg, Dn.part, hbox, hp1, hv1, hp2, hv2, hp3, hv3, ha, hlt, hm0, hm1, hm2]
  · intro hok v hv
    have hlt : wAt w j.1 + wAt w j.2.1 < wAt w j.2.2 := by simp [jumpOk] at hok; omega
    refine ⟨[], ?_⟩
    rw [den_eq, runC_go]
    simp [b59_1, go_nil, go_last, go_past, go_pastR, go_blkN, go_blkR, go_blkE, go_skip, go_exit, go_ret, go_scope, go_seq, go_reg, go_block, go_cond, cnd_b, go_opsN, go_ops, go_opsG, grd_b, grd_u, stp_some, fin_some, up_some, cont_some, k_call, k_mv, k_pick, k_bin, k_eqB, k_eqA, k_not, k_neg, k_conv, k_alloc, k_boxA, k_boxI, k_boxB, k_boxN, k_boxBs, k_ldR, k_ldA, k_ldI, k_ldB, k_stA, k_stI, k_stB, ldC_some, stC_some, k_mkfn, k_slc, k_slcA, k_ixA, k_ixBs, k_ixSl, k_fadr, k_fld, k_ext, k_len, k_app, k_mn, k_mx, k_nilck, k_build, k_bsl1, k_bsl2, b_add, b_sub, b_mul, b_eql, b_neq, b_lss, b_leq, b_gtr, b_geq, Dn.setLast, Dn.getLast, evalO, mapO, Dn.get, putE, keepE, TV.one, TV.isAgg, Dn.part, hbox, hp1, hv1, hp2, hv2, hp3, hv3, ha, hlt, hm0, hm1, hm2, hv, put2]

theorem over59 {pg : Pg} {w : List Int} {l : List Line} {n : Int} (hw : wts n w = true) (hf : ∀ x ∈ l, Fits n x) :
    Over pg 3 L59 l (fun k H => H[0]? = some (.cells [WT true w] false) ∧ (∃ v, H[1]? = some (.cells [v] false)) ∧ H[3]? = some (.loop L59) ∧ ∀ i j, i < k → (js l)[i]? = some j → jumpOk w j = true)
      (fun k x H => x = .ret ∧ H[1]? = some (.cells [.b false] false) ∧ ∃ j, (js l)[k]? = some j ∧ jumpOk w j = false) where
  ready := rfl
  pend := rfl
  two := rfl
  step := by
    intro k j H X hj ⟨hb, ⟨v, hc⟩, h3, hall⟩ hL
    have hfit := js_fits hf j (List.mem_of_getElem? hj)
    have hlt := (List.getElem?_eq_some_iff.1 h3).1
    have hassign : den pg a59_0 [(10, lineTV j), (9, .i .i64 (k : Int)), (3, .ref 0 0), (4, .ref 1 0)] (H ++ X) = some ⟨.normal, [(3, .ref 0 0), (4, .ref 1 0), (6, .ref (H ++ X).length 0)], H ++ X ++ [cl j]⟩ := by
      rw [den_eq, runC_go]
      generalize H ++ X = HX
      simp [a59_0, go_nil, go_last, go_past, go_pastR, go_blkN, go_blkR, go_blkE, go_skip, go_exit, go_ret, go_scope, go_seq, go_reg, go_block, go_cond, cnd_b, go_opsN, go_ops, go_opsG, grd_b, grd_u, stp_some, fin_some, up_some, cont_some, k_call, k_mv, k_pick, k_bin, k_eqB, k_eqA, k_not, k_neg, k_conv, k_alloc, k_boxA, k_boxI, k_boxB, k_boxN, k_boxBs, k_ldR, k_ldA, k_ldI, k_ldB, k_stA, k_stI, k_stB, ldC_some, stC_some, k_mkfn, k_slc, k_slcA, k_ixA, k_ixBs, k_ixSl, k_fadr, k_fld, k_ext, k_len, k_app, k_mn, k_mx, k_nilck, k_build, k_bsl1, k_bsl2, b_add, b_sub, b_mul, b_eql, b_neq, b_lss, b_leq, b_gtr, b_geq, Dn.setLast, Dn.getLast, evalO, mapO, Dn.get, putE, keepE, TV.one, TV.isAgg, Dn.part, lineTV, put2, cl]
    have hpre : ∀ (i : Nat) (o : AObj), H[i]? = some o → (H ++ X ++ [cl j])[i]? = some o := by
      intro i o h
      have := (List.getElem?_eq_some_iff.1 h).1
      rw [List.append_assoc, List.getElem?_append_left this, h]
    have hset : ∀ (i : Nat) (o : AObj), i ≠ 3 → (H ++ X ++ [cl j])[i]? = some o → ((H ++ X ++ [cl j]).set 3 (.loop { L59 with st := .busy }))[i]? = some o := by
      intro i o hi h
      rw [List.getElem?_set_ne (by omega), h]
    have hB := b59_ok (pg := pg) (HB := (H ++ X ++ [cl j]).set 3 (.loop { L59 with st := .busy })) (m := (H ++ X).length) hw hfit (hset _ _ (by omega) (hpre _ _ hb)) (hset _ _ (by simp; omega) (getLast _ _))
    have h3' : (H ++ X ++ [cl j])[3]? = some (.loop L59) := hpre _ _ h3
    have hlen : 3 < (H ++ X ++ [cl j]).length := (List.getElem?_eq_some_iff.1 h3').1
    have hback : ((H ++ X ++ [cl j]).set 3 (.loop { L59 with st := .busy })).set 3 (.loop L59) = H ++ X ++ [cl j] := by
      rw [List.set_set]
      apply List.ext_getElem?
      intro i
      by_cases hi : i = 3
      · subst hi; rw [List.getElem?_set_self hlen, h3']
      · rw [List.getElem?_set_ne (by omega)]
    cases hjo : jumpOk w j with
    | true =>
      obtain ⟨e2, h2⟩ := hB.1 hjo
      refine ⟨.normal, H ++ X ++ [cl j], ⟨_, _, e2, _, hassign, h3', h2, ?_, hback.symm⟩, ?_, .inl ⟨rfl, hpre _ _ hb, ⟨v, hpre _ _ hc⟩, h3', ?_⟩⟩
      · rw [List.getElem?_set_self hlen]
      · intro i y hy
        have := (List.getElem?_eq_some_iff.1 hy).1
        rw [List.append_assoc, List.getElem?_append_right (by omega), Nat.add_sub_cancel_left, List.getElem?_append_left this, hy]
      · intro i j' hi hj'
        by_cases hik : i = k
        · subst hik; rw [hj] at hj'; cases hj'; exact hjo
        · exact hall i j' (by omega) hj'
    | false =>
      obtain ⟨e2, h2⟩ := hB.2 hjo v (hset _ _ (by omega) (hpre _ _ hc))
      refine ⟨.ret, _, ⟨_, _, e2, _, hassign, h3', h2, ?_, rfl⟩, ?_, .inr ⟨by simp, rfl, ?_, j, hj, hjo⟩⟩
      · rw [List.getElem?_set_ne (by omega), List.getElem?_set_self hlen]
      · intro i y hy
        have := (List.getElem?_eq_some_iff.1 hy).1
        rw [List.getElem?_set_ne (by omega), List.getElem?_set_ne (by omega), List.getElem?_set_ne (by omega), List.append_assoc, List.getElem?_append_right (by omega), Nat.add_sub_cancel_left, List.getElem?_append_left this, hy]
      · have h1 : 1 < (H ++ X ++ [cl j]).length := by omega
        rw [List.getElem?_set_ne (by omega), List.getElem?_set_self (by simpa using h1)]

theorem fn59 {pg : Pg} (hF : Free pg) {n : Int} {w : List Int} {l : List Line} (hw : wts n w = true) (hc : chk n l = 0) : Fn pg 59 [LT true l, WT true w] (.b ((js l).all (jumpOk w))) := by
  obtain ⟨_, _, hl, hf⟩ := chk_ok hc
  have h62 := fn62 hF true l [.cells [WT true w] false, .cells [.b false] false]
  have hov := over59 (pg := pg) hw hf
  have hwb : ∀ H, dkc pg (den pg) (.box false) [WT true w] H = some (.ref H.length 0, H ++ [.cells [WT true w] false]) := by
    intro H; cases w <;> rfl
  have hrf := rf_jumps (pg := pg) hF (L := L59) (s := .t 8) (e := [(3, .ref 0 0), (4, .ref 1 0), (8, .fn 77 [] [.ref 2 0])]) (ps := [9, 10]) (as_ := a59_0) (bd := b59_1) (ks := [3, 4]) (bid := 2) (b := true) (l := l)
    (H := [.cells [WT true w] false, .cells [.b false] false, .cells [LT true l] false]) rfl hov hl rfl rfl ⟨rfl, ⟨_, rfl⟩, rfl, fun i j h => by omega⟩
  simp at h62
  rcases hrf with ⟨Hf, o, ⟨h1, ⟨v, h2⟩, h3, h4⟩, h5, h6⟩ | ⟨k, x, Hf, o, ⟨rfl, h1, j, h2, h3⟩, h4, h5, h6⟩
  · have hall : (js l).all (jumpOk w) = true := by
      rw [List.all_eq_true]
      intro j hj
      obtain ⟨i, hi, rfl⟩ := List.getElem_of_mem hj
      exact h4 i _ (by rw [js_len] at hi; omega) (List.getElem?_eq_getElem hi)
    rw [hall]
    have hlt := (List.getElem?_eq_some_iff.1 h5).1
    have h2' : (Hf.set 3 (.loop o))[1]? = some (.cells [v] false) := by rw [List.getElem?_set_ne (by omega), h2]
    have hlt1 : 1 < (Hf.set 3 (.loop o)).length := by have := (List.getElem?_eq_some_iff.1 h2').1; exact this
    simp only [List.length_cons, List.length_nil, Nat.zero_add] at h6
    generalize Hf.set 3 (.loop o) = HG at h2' hlt1 h6
    refine .of1 (x := .ret) (e := [(4, .ref 1 0)]) (H' := HG.set 1 (.cells [.b true] false)) (hF.S _ _ (by decide)) (d := d59) (by rw [hF.F]; rfl) rfl ?_ (.inl rfl) ?_ (by simp [sn_i, sn_b, sn_nil, sn8_i, sn8_b, sn8_nil, sn7_i, sn7_b, sn_sl, sn8_sl, slB_some, sn_tup, sn_agg, sn8_agg, mapO, elems])
    · simp [d59, c59, zipE, go_nil, go_last, go_past, go_pastR, go_blkN, go_blkR, go_blkE, go_skip, go_exit, go_ret, go_scope, go_seq, go_reg, go_block, go_cond, cnd_b, go_opsN, go_ops, go_opsG, grd_b, grd_u, stp_some, fin_some, up_some, cont_some, k_call, k_mv, k_pick, k_bin, k_eqB, k_eqA, k_not, k_neg, k_conv, k_alloc, k_boxA, k_boxI, k_boxB, k_boxN, k_boxBs, k_ldR, k_ldA, k_ldI, k_ldB, k_stA, k_stI, k_stB, ldC_some, stC_some, k_mkfn, k_slc, k_slcA, k_ixA, k_ixBs, k_ixSl, k_fadr, k_fld, k_ext, k_len, k_app, k_mn, k_mx, k_nilck, k_build, k_bsl1, k_bsl2, b_add, b_sub, b_mul, b_eql, b_neq, b_lss, b_leq, b_gtr, b_geq, Dn.setLast, Dn.getLast, evalO, mapO, Dn.get, putE, keepE, TV.one, TV.isAgg, Dn.part, hwb, sh_fn, h62, h6, h2', put2]
    · simp [d59, resRun, mapO, Dn.get, dk, Dn.part, TV.isAgg, hlt1]
  · have hall : (js l).all (jumpOk w) = false := by
      rw [List.all_eq_false]
      exact ⟨j, List.mem_of_getElem? h2, by simp [h3]⟩
    rw [hall]
    have h1' : (Hf.set 3 (.loop o))[1]? = some (.cells [.b false] false) := by rw [List.getElem?_set_ne (by omega), h1]
    simp only [List.length_cons, List.length_nil, Nat.zero_add] at h6
    generalize Hf.set 3 (.loop o) = HG at h1' h6
    refine .of1 (x := .ret) (e := [(3, .ref 0 0), (4, .ref 1 0)]) (H' := HG) (hF.S _ _ (by decide)) (d := d59) (by rw [hF.F]; rfl) rfl ?_ (.inl rfl) ?_ (by simp [sn_i, sn_b, sn_nil, sn8_i, sn8_b, sn8_nil, sn7_i, sn7_b, sn_sl, sn8_sl, slB_some, sn_tup, sn_agg, sn8_agg, mapO, elems])
    · simp [d59, c59, zipE, go_nil, go_last, go_past, go_pastR, go_blkN, go_blkR, go_blkE, go_skip, go_exit, go_ret, go_scope, go_seq, go_reg, go_block, go_cond, cnd_b, go_opsN, go_ops, go_opsG, grd_b, grd_u, stp_some, fin_some, up_some, cont_some, k_call, k_mv, k_pick, k_bin, k_eqB, k_eqA, k_not, k_neg, k_conv, k_alloc, k_boxA, k_boxI, k_boxB, k_boxN, k_boxBs, k_ldR, k_ldA, k_ldI, k_ldB, k_stA, k_stI, k_stB, ldC_some, stC_some, k_mkfn, k_slc, k_slcA, k_ixA, k_ixBs, k_ixSl, k_fadr, k_fld, k_ext, k_len, k_app, k_mn, k_mx, k_nilck, k_build, k_bsl1, k_bsl2, b_add, b_sub, b_mul, b_eql, b_neq, b_lss, b_leq, b_gtr, b_geq, Dn.setLast, Dn.getLast, evalO, mapO, Dn.get, putE, keepE, TV.one, TV.isAgg, Dn.part, hwb, sh_fn, h62, h6]
    · simp [d59, resRun, mapO, Dn.get, dk, Dn.part, TV.isAgg, h1']

end Go.Proofs.Try.Dn

/-
  Weights: the reference's pagoda, sums and gains.
-/

namespace Go.Proofs.Try.Dn
open Go.Dn

def lineOk (w : List Int) (x : Line) : Bool := jumpOk w x && jumpOk w (rev x)

theorem lineOk_iff (w : List Int) (x : Line) : lineOk w x = true ↔ wAt w x.2.2 ≤ wAt w x.1 + wAt w x.2.1 ∧ wAt w x.1 ≤ wAt w x.2.2 + wAt w x.2.1 := by
  unfold lineOk
  rw [Bool.and_eq_true]
  exact and_congr (by simp [jumpOk]) (by show decide (wAt w x.1 ≤ wAt w x.2.2 + wAt w x.2.1) = true ↔ _; rw [decide_eq_true_eq])

theorem js_all (w : List Int) : ∀ l : List Line, (js l).all (jumpOk w) = l.all (lineOk w)
  | [] => rfl
  | x :: l => by simp only [js, List.all_cons, js_all w l, lineOk, Bool.and_assoc]

theorem l34_round {pg : Pg} {H : Heap} {n : Int} {w : List Int} {l : List Line} {i : Nat} {x : Line} (hw : wts n w = true) (hl : l.length ≤ 40) (hx : l[i]? = some x) (hf : Fits n x) :
    den pg l34_1 [(0, LT true l), (1, WT true w), (5, .i .i64 (i : Int))] H = if lineOk w x then den pg l34_1 [(0, LT true l), (1, WT true w), (5, .i .i64 ((i + 1 : Nat) : Int))] H else some ⟨.ret, [(4, .b false)], H⟩ := by
  have hwn : (w.length : Int) = n := by simp [wts] at hw; exact hw.2
  have hwo : w.all okW = true := by simp [wts] at hw; simpa using hw.1
  have hi := (List.getElem?_eq_some_iff.1 hx).1
  have e1 : ((i : Int) < (l.length : Int)) := by omega
  have e2 : wrapR .i64 ((i : Int) + 1) = .i .i64 ((i : Int) + 1) := wrapR_i64 (by omega)
  obtain ⟨f1, f2, f3, f4, f5, f6, _⟩ := hf
  have hne := LT_getne hx
  have hlen := LT_len true l
  have hV : elL.View H (LT true l) l := by rw [LT_lt]; exact El.lt_view _ _ _
  obtain ⟨p, hp, hat, _⟩ := ixL (pg := pg) (R := den pg) hV hx
  obtain ⟨q0, hq0, hr0⟩ := cellL (pg := pg) (R := den pg) hat (j := 0) (v := .i .i64 x.1) rfl
  obtain ⟨q1, hq1, hr1⟩ := cellL (pg := pg) (R := den pg) hat (j := 1) (v := .i .i64 x.2.1) rfl
  obtain ⟨q2, hq2, hr2⟩ := cellL (pg := pg) (R := den pg) hat (j := 2) (v := .i .i64 x.2.2) rfl
  simp only [Int.cast_ofNat_Int, Int.natCast_zero, Int.natCast_one] at hq0 hq1 hq2
  obtain ⟨p1, hp1, hv1⟩ := ixI' (pg := pg) (R := den pg) (WT_view true w H) f1 (by omega)
  obtain ⟨p2, hp2, hv2⟩ := ixI' (pg := pg) (R := den pg) (WT_view true w H) f3 (by omega)
  obtain ⟨p3, hp3, hv3⟩ := ixI' (pg := pg) (R := den pg) (WT_view true w H) f5 (by omega)
  have o1 := wAt_ok hwo x.1
  have o2 := wAt_ok hwo x.2.1
  have o3 := wAt_ok hwo x.2.2
  have ha : wrapR .i64 (wAt w x.1 + wAt w x.2.1) = .i .i64 (wAt w x.1 + wAt w x.2.1) := wrapR_i64 (by omega)
  have hb : wrapR .i64 (wAt w x.2.2 + wAt w x.2.1) = .i .i64 (wAt w x.2.2 + wAt w x.2.1) := wrapR_i64 (by omega)
  by_cases c1 : wAt w x.1 + wAt w x.2.1 < wAt w x.2.2
  · have : ¬ lineOk w x = true := by
      intro h
      rw [lineOk_iff] at h
      omega
    rw [if_neg this, l34_1, den_loop]
    simp [l34_1, b34_0, go_nil, go_last, go_past, go_pastR, go_blkN, go_blkR, go_blkE, go_skip, go_exit, go_ret, go_scope, go_seq, go_reg, go_block, go_cond, cnd_b, go_opsN, go_ops, go_opsG, grd_b, grd_u, stp_some, fin_some, up_some, cont_some, k_call, k_mv, k_pick, k_bin, k_eqB, k_eqA, k_not, k_neg, k_conv, k_alloc, k_boxA, k_boxI, k_boxB, k_boxN, k_boxBs, k_ldR, k_ldA, k_ldI, k_ldB, k_stA, k_stI, k_stB, ldC_some, stC_some, k_mkfn, k_slc, k_slcA, k_ixA, k_ixBs, k_ixSl, k_fadr, k_fld, k_ext, k_len, k_app, k_mn, k_mx, k_nilck, k_build, k_bsl1, k_bsl2, b_add, b_sub, b_mul, b_eql, b_neq, b_lss, b_leq, b_gtr, b_geq, Dn.setLast, Dn.getLast, evalO, mapO, Dn.get, putE, keepE, TV.one, TV.isAgg, Dn.part, hlen, e1, hp, hq0, hr0, hq1, hr1, hq2, hr2, hp1, hv1, hp2, hv2, hp3, hv3, ha, hb, c1]
  · by_cases c2 : wAt w x.2.2 + wAt w x.2.1 < wAt w x.1
    · have : ¬ lineOk w x = true := by
        intro h
        rw [lineOk_iff] at h
        omega
      rw [if_neg this, l34_1, den_loop]
      simp [l34_1, b34_0, go_nil, go_last, go_past, go_pastR, go_blkN, go_blkR, go_blkE, go_skip, go_exit, go_ret, go_scope, go_seq, go_reg, go_block, go_cond, cnd_b, go_opsN, go_ops, go_opsG, grd_b, grd_u, stp_some, fin_some, up_some, cont_some, k_call, k_mv, k_pick, k_bin, k_eqB, k_eqA, k_not, k_neg, k_conv, k_alloc, k_boxA, k_boxI, k_boxB, k_boxN, k_boxBs, k_ldR, k_ldA, k_ldI, k_ldB, k_stA, k_stI, k_stB, ldC_some, stC_some, k_mkfn, k_slc, k_slcA, k_ixA, k_ixBs, k_ixSl, k_fadr, k_fld, k_ext, k_len, k_app, k_mn, k_mx, k_nilck, k_build, k_bsl1, k_bsl2, b_add, b_sub, b_mul, b_eql, b_neq, b_lss, b_leq, b_gtr, b_geq, Dn.setLast, Dn.getLast, evalO, mapO, Dn.get, putE, keepE, TV.one, TV.isAgg, Dn.part, hlen, e1, hp, hq0, hr0, hq1, hr1, hq2, hr2, hp1, hv1, hp2, hv2, hp3, hv3, ha, hb, c1, c2]
    · have : lineOk w x = true := by
        rw [lineOk_iff]
        omega
      rw [if_pos this, l34_1, den_loop]
      simp [l34_1, b34_0, go_nil, go_last, go_past, go_pastR, go_blkN, go_blkR, go_blkE, go_skip, go_exit, go_ret, go_scope, go_seq, go_reg, go_block, go_cond, cnd_b, go_opsN, go_ops, go_opsG, grd_b, grd_u, stp_some, fin_some, up_some, cont_some, k_call, k_mv, k_pick, k_bin, k_eqB, k_eqA, k_not, k_neg, k_conv, k_alloc, k_boxA, k_boxI, k_boxB, k_boxN, k_boxBs, k_ldR, k_ldA, k_ldI, k_ldB, k_stA, k_stI, k_stB, ldC_some, stC_some, k_mkfn, k_slc, k_slcA, k_ixA, k_ixBs, k_ixSl, k_fadr, k_fld, k_ext, k_len, k_app, k_mn, k_mx, k_nilck, k_build, k_bsl1, k_bsl2, b_add, b_sub, b_mul, b_eql, b_neq, b_lss, b_leq, b_gtr, b_geq, Dn.setLast, Dn.getLast, evalO, mapO, Dn.get, putE, keepE, TV.one, TV.isAgg, Dn.part, hlen, e1, e2, hp, hq0, hr0, hq1, hr1, hq2, hr2, hp1, hv1, hp2, hv2, hp3, hv3, ha, hb, c1, c2]

theorem l34_all {pg : Pg} {H : Heap} {n : Int} {w : List Int} {l : List Line} (hw : wts n w = true) (hl : l.length ≤ 40) (hf : ∀ x ∈ l, Fits n x) : ∀ (k i : Nat), i + k = l.length →
    ∃ x e, den pg l34_1 [(0, LT true l), (1, WT true w), (5, .i .i64 (i : Int))] H = some ⟨x, e, H⟩ ∧ (x = .exit 0 ∧ (l.drop i).all (lineOk w) = true ∨ x = .ret ∧ e = [(4, .b false)] ∧ (l.drop i).all (lineOk w) = false)
  | 0, i, h => by
    have e1 : ¬ ((i : Int) < (l.length : Int)) := by omega
    have hlen := LT_len true l
    refine ⟨.exit 0, [(0, LT true l), (1, WT true w), (5, .i .i64 (i : Int)), (12, .b false)], ?_, .inl ⟨rfl, by rw [List.drop_eq_nil_of_le (by omega)]; rfl⟩⟩
    rw [l34_1, den_loop]
    simp [b34_0, go_nil, go_last, go_past, go_pastR, go_blkN, go_blkR, go_blkE, go_skip, go_exit, go_ret, go_scope, go_seq, go_reg, go_block, go_cond, cnd_b, go_opsN, go_ops, go_opsG, grd_b, grd_u, stp_some, fin_some, up_some, cont_some, k_call, k_mv, k_pick, k_bin, k_eqB, k_eqA, k_not, k_neg, k_conv, k_alloc, k_boxA, k_boxI, k_boxB, k_boxN, k_boxBs, k_ldR, k_ldA, k_ldI, k_ldB, k_stA, k_stI, k_stB, ldC_some, stC_some, k_mkfn, k_slc, k_slcA, k_ixA, k_ixBs, k_ixSl, k_fadr, k_fld, k_ext, k_len, k_app, k_mn, k_mx, k_nilck, k_build, k_bsl1, k_bsl2, b_add, b_sub, b_mul, b_eql, b_neq, b_lss, b_leq, b_gtr, b_geq, Dn.setLast, Dn.getLast, evalO, mapO, Dn.get, putE, keepE, TV.one, TV.isAgg, Dn.part, hlen, e1]
  | k + 1, i, h => by
    have hi : i < l.length := by omega
    have hr := l34_round (pg := pg) (H := H) hw hl (List.getElem?_eq_getElem hi) (hf _ (List.getElem_mem hi))
    have hd : l.drop i = l[i] :: l.drop (i + 1) := List.drop_eq_getElem_cons hi
    rw [hd, List.all_cons]
    by_cases hok : lineOk w l[i] = true
    · rw [if_pos hok] at hr
      obtain ⟨x, e, h1, h2⟩ := l34_all (pg := pg) (H := H) hw hl hf k (i + 1) (by omega)
      exact ⟨x, e, hr.trans h1, by simpa [hok] using h2⟩
    · rw [if_neg hok] at hr
      exact ⟨_, _, hr, .inr ⟨rfl, rfl, by simp [hok]⟩⟩

theorem fn34 {pg : Pg} (hF : Free pg) {n : Int} {w : List Int} {l : List Line} (hw : wts n w = true) (hc : chk n l = 0) : Fn pg 34 [LT true l, WT true w] (.b (l.all (lineOk w))) := by
  obtain ⟨_, _, hl, hf⟩ := chk_ok hc
  obtain ⟨x, e, h1, h2⟩ := l34_all (pg := pg) (H := []) hw hl hf l.length 0 (by omega)
  simp only [Int.natCast_zero, List.drop_zero] at h1 h2
  rcases h2 with ⟨rfl, h4⟩ | ⟨rfl, rfl, h4⟩
  · refine .of1 (x := .ret) (e := [(4, .b true)]) (H' := []) (hF.S _ _ (by decide)) (d := d34) (by rw [hF.F]; rfl) rfl ?_ (.inl rfl) (by rw [h4]; rfl) (by simp [sn_i, sn_b, sn_nil, sn8_i, sn8_b, sn8_nil, sn7_i, sn7_b, sn_sl, sn8_sl, slB_some, sn_tup, sn_agg, sn8_agg, mapO, elems])
    simp [d34, c34, zipE, go_nil, go_last, go_past, go_pastR, go_blkN, go_blkR, go_blkE, go_skip, go_exit, go_ret, go_scope, go_seq, go_reg, go_block, go_cond, cnd_b, go_opsN, go_ops, go_opsG, grd_b, grd_u, stp_some, fin_some, up_some, cont_some, k_call, k_mv, k_pick, k_bin, k_eqB, k_eqA, k_not, k_neg, k_conv, k_alloc, k_boxA, k_boxI, k_boxB, k_boxN, k_boxBs, k_ldR, k_ldA, k_ldI, k_ldB, k_stA, k_stI, k_stB, ldC_some, stC_some, k_mkfn, k_slc, k_slcA, k_ixA, k_ixBs, k_ixSl, k_fadr, k_fld, k_ext, k_len, k_app, k_mn, k_mx, k_nilck, k_build, k_bsl1, k_bsl2, b_add, b_sub, b_mul, b_eql, b_neq, b_lss, b_leq, b_gtr, b_geq, Dn.setLast, Dn.getLast, evalO, mapO, Dn.get, putE, keepE, TV.one, TV.isAgg, Dn.part, go_den l34_1, h1]
  · refine .of1 (x := .ret) (e := [(4, .b false)]) (H' := []) (hF.S _ _ (by decide)) (d := d34) (by rw [hF.F]; rfl) rfl ?_ (.inl rfl) (by rw [h4]; rfl) (by simp [sn_i, sn_b, sn_nil, sn8_i, sn8_b, sn8_nil, sn7_i, sn7_b, sn_sl, sn8_sl, slB_some, sn_tup, sn_agg, sn8_agg, mapO, elems])
    simp [d34, c34, zipE, go_nil, go_last, go_past, go_pastR, go_blkN, go_blkR, go_blkE, go_skip, go_exit, go_ret, go_scope, go_seq, go_reg, go_block, go_cond, cnd_b, go_opsN, go_ops, go_opsG, grd_b, grd_u, stp_some, fin_some, up_some, cont_some, k_call, k_mv, k_pick, k_bin, k_eqB, k_eqA, k_not, k_neg, k_conv, k_alloc, k_boxA, k_boxI, k_boxB, k_boxN, k_boxBs, k_ldR, k_ldA, k_ldI, k_ldB, k_stA, k_stI, k_stB, ldC_some, stC_some, k_mkfn, k_slc, k_slcA, k_ixA, k_ixBs, k_ixSl, k_fadr, k_fld, k_ext, k_len, k_app, k_mn, k_mx, k_nilck, k_build, k_bsl1, k_bsl2, b_add, b_sub, b_mul, b_eql, b_neq, b_lss, b_leq, b_gtr, b_geq, Dn.setLast, Dn.getLast, evalO, mapO, Dn.get, putE, keepE, TV.one, TV.isAgg, Dn.part, go_den l34_1, h1]

/-- a position's hole -/
def bt (p : Int) (i : Nat) : Int := p / 2 ^ i % 2

theorem bt_range (p : Int) (i : Nat) : 0 ≤ bt p i ∧ bt p i ≤ 1 := by
  unfold bt; omega

theorem shr_eq {p : Int} {i : Nat} {k : IntKind} (hi : i ≤ 60) : binI .shr (.i .i64 p) (.i k (i : Int)) = some (.i .i64 (p / 2 ^ i)) := by
  have h0 : ¬ ((i : Int) < 0) := by omega
  have h1 : min i 64 = i := by omega
  have h2 : (0 : Int) ≤ 2 ^ i := Int.le_of_lt (Int.pow_pos (by decide))
  simp [binI, h1, IntKind.bits, Int.fdiv_eq_ediv_of_nonneg _ h2]

theorem and1_eq {x : Int} (h0 : 0 ≤ x) (h1 : x < 9223372036854775808) : binI .and (.i .i64 x) (.i .i64 1) = some (.i .i64 (x % 2)) := by
  obtain ⟨m, rfl⟩ := Int.eq_ofNat_of_zero_le h0
  have h2 : ((BitVec.ofInt 64 (m : Int)) &&& (BitVec.ofInt 64 1)).toNat = m % 2 := by
    have hm : BitVec.ofInt 64 (m : Int) = BitVec.ofNat 64 m := by simp
    have h1' : BitVec.ofInt 64 1 = BitVec.ofNat 64 1 := by decide
    rw [hm, h1', BitVec.toNat_and]
    simp only [BitVec.toNat_ofNat]
    rw [show 1 % 2 ^ 64 = 1 by decide, Nat.mod_eq_of_lt (by omega : m < 2 ^ 64), Nat.and_one_is_mod]
  have h3 : wrapR .i64 ((m % 2 : Nat) : Int) = .i .i64 ((m : Int) % 2) := by rw [wrapR_i64 (by omega)]; simp
  rw [show binI .and (.i .i64 (m : Int)) (.i .i64 1) = some (wrapR .i64 ((BitVec.ofInt 64 (m : Int)) &&& (BitVec.ofInt 64 1)).toNat) from rfl, h2, h3]

def sumL (p : Int) : List Int → Nat → Int
  | [], _ => 0
  | x :: l, i => bt p i * x + sumL p l (i + 1)

theorem bt_mul {p x : Int} {i : Nat} (h : okW x = true) : -1000000 ≤ bt p i * x ∧ bt p i * x ≤ 1000000 := by
  have h1 := bt_range p i
  simp [okW] at h
  rcases (by omega : bt p i = 0 ∨ bt p i = 1) with h2 | h2 <;> rw [h2] <;> omega

theorem l61_all {pg : Pg} {H : Heap} {w : List Int} {p : Int} (hw : w.all okW = true) (hl : w.length ≤ 16) (hp0 : 0 ≤ p) : ∀ (k i : Nat) (a : Int), i + k = w.length → -1000000 * (i : Int) ≤ a → a ≤ 1000000 * (i : Int) →
    ∃ e, den pg l61_1 [(0, WT true w), (1, .i .i64 p), (5, .i .i64 a), (6, .i .i64 (i : Int))] H = some ⟨.exit 0, e, H⟩ ∧ get e 5 = some (.i .i64 (a + sumL p (w.drop i) i))
  | 0, i, a, h, _, _ => by
    have e1 : ¬ ((i : Int) < (w.length : Int)) := by omega
    have hlen := fun H => (WT_view true w H).lenK H
    refine ⟨[(0, WT true w), (1, .i .i64 p), (5, .i .i64 a), (6, .i .i64 (i : Int)), (10, .b false)], ?_, by rw [List.drop_eq_nil_of_le (by omega)]; simp [sumL, Dn.get]⟩
    rw [l61_1, den_loop]
    simp [b61_0, go_nil, go_last, go_past, go_pastR, go_blkN, go_blkR, go_blkE, go_skip, go_exit, go_ret, go_scope, go_seq, go_reg, go_block, go_cond, cnd_b, go_opsN, go_ops, go_opsG, grd_b, grd_u, stp_some, fin_some, up_some, cont_some, k_call, k_mv, k_pick, k_bin, k_eqB, k_eqA, k_not, k_neg, k_conv, k_alloc, k_boxA, k_boxI, k_boxB, k_boxN, k_boxBs, k_ldR, k_ldA, k_ldI, k_ldB, k_stA, k_stI, k_stB, ldC_some, stC_some, k_mkfn, k_slc, k_slcA, k_ixA, k_ixBs, k_ixSl, k_fadr, k_fld, k_ext, k_len, k_app, k_mn, k_mx, k_nilck, k_build, k_bsl1, k_bsl2, b_add, b_sub, b_mul, b_eql, b_neq, b_lss, b_leq, b_gtr, b_geq, Dn.setLast, Dn.getLast, evalO, mapO, Dn.get, putE, keepE, TV.one, TV.isAgg, Dn.part, hlen, e1]
  | k + 1, i, a, h, ha, hb => by
    have hi : i < w.length := by omega
    have e1 : ((i : Int) < (w.length : Int)) := by omega
    have e2 : wrapR .i64 ((i : Int) + 1) = .i .i64 ((i : Int) + 1) := wrapR_i64 (by omega)
    have hlen := fun H => (WT_view true w H).lenK H
    obtain ⟨q, hq, hv⟩ := ixI (pg := pg) (R := den pg) (WT_view true w H) (List.getElem?_eq_getElem hi)
    have hd : w.drop i = w[i] :: w.drop (i + 1) := List.drop_eq_getElem_cons hi
    have hok : okW w[i] = true := List.all_eq_true.1 hw _ (List.getElem_mem hi)
    have hbm := bt_mul (p := p) (i := i) hok
    have e3 : wrapR .i64 (bt p i * w[i]) = .i .i64 (bt p i * w[i]) := wrapR_i64 (by omega)
    have e4 : wrapR .i64 (a + bt p i * w[i]) = .i .i64 (a + bt p i * w[i]) := wrapR_i64 (by omega)
    have hs := shr_eq (p := p) (i := i) (k := .i64) (by omega)
    have hnn : 0 ≤ p / 2 ^ i := Int.ediv_nonneg hp0 (Int.le_of_lt (Int.pow_pos (by decide)))
    have hr : binI .rem (.i .i64 (p / 2 ^ i)) (.i .i64 2) = some (.i .i64 (bt p i)) := by
      rw [b_rem, if_neg (by decide), Int.tmod_eq_emod_of_nonneg hnn]; rfl
    obtain ⟨e, h1, h2⟩ := l61_all (pg := pg) (H := H) hw hl hp0 k (i + 1) (a + bt p i * w[i]) (by omega) (by omega) (by omega)
    refine ⟨e, Eq.trans ?_ h1, by rw [hd, sumL, h2]; simp only [Int.add_assoc]⟩
    rw [l61_1, den_loop]
    simp [l61_1, b61_0, go_nil, go_last, go_past, go_pastR, go_blkN, go_blkR, go_blkE, go_skip, go_exit, go_ret, go_scope, go_seq, go_reg, go_block, go_cond, cnd_b, go_opsN, go_ops, go_opsG, grd_b, grd_u, stp_some, fin_some, up_some, cont_some, k_call, k_mv, k_pick, k_bin, k_eqB, k_eqA, k_not, k_neg, k_conv, k_alloc, k_boxA, k_boxI, k_boxB, k_boxN, k_boxBs, k_ldR, k_ldA, k_ldI, k_ldB, k_stA, k_stI, k_stB, ldC_some, stC_some, k_mkfn, k_slc, k_slcA, k_ixA, k_ixBs, k_ixSl, k_fadr, k_fld, k_ext, k_len, k_app, k_mn, k_mx, k_nilck, k_build, k_bsl1, k_bsl2, b_add, b_sub, b_mul, b_eql, b_neq, b_lss, b_leq, b_gtr, b_geq, Dn.setLast, Dn.getLast, evalO, mapO, Dn.get, putE, keepE, TV.one, TV.isAgg, Dn.part, hlen, e1, e2, hq, hv, hs, hr, e3, e4]

theorem fn61 {pg : Pg} (hF : Free pg) {w : List Int} {p : Int} (hw : w.all okW = true) (hl : w.length ≤ 16) (hp0 : 0 ≤ p) : Fn pg 61 [WT true w, .i .i64 p] (.i .i64 (sumL p w 0)) := by
  obtain ⟨e, h1, h2⟩ := l61_all (pg := pg) (H := []) hw hl hp0 w.length 0 0 (by omega) (by omega) (by omega)
  simp only [Int.natCast_zero, List.drop_zero, Int.zero_add] at h1 h2
  refine .of1 (x := .ret) (e := [(4, .i .i64 (sumL p w 0))]) (H' := []) (hF.S _ _ (by decide)) (d := d61) (by rw [hF.F]; rfl) rfl ?_ (.inl rfl) rfl (by simp [sn_i, sn_b, sn_nil, sn8_i, sn8_b, sn8_nil, sn7_i, sn7_b, sn_sl, sn8_sl, slB_some, sn_tup, sn_agg, sn8_agg, mapO, elems])
  simp [d61, c61, zipE, go_nil, go_last, go_past, go_pastR, go_blkN, go_blkR, go_blkE, go_skip, go_exit, go_ret, go_scope, go_seq, go_reg, go_block, go_cond, cnd_b, go_opsN, go_ops, go_opsG, grd_b, grd_u, stp_some, fin_some, up_some, cont_some, k_call, k_mv, k_pick, k_bin, k_eqB, k_eqA, k_not, k_neg, k_conv, k_alloc, k_boxA, k_boxI, k_boxB, k_boxN, k_boxBs, k_ldR, k_ldA, k_ldI, k_ldB, k_stA, k_stI, k_stB, ldC_some, stC_some, k_mkfn, k_slc, k_slcA, k_ixA, k_ixBs, k_ixSl, k_fadr, k_fld, k_ext, k_len, k_app, k_mn, k_mx, k_nilck, k_build, k_bsl1, k_bsl2, b_add, b_sub, b_mul, b_eql, b_neq, b_lss, b_leq, b_gtr, b_geq, Dn.setLast, Dn.getLast, evalO, mapO, Dn.get, putE, keepE, TV.one, TV.isAgg, Dn.part, go_den l61_1, h1, h2]

theorem l60_all {pg : Pg} {H : Heap} {w : List Int} {p q : Int} (hw : w.all okW = true) (hl : w.length ≤ 16) (hp0 : 0 ≤ p ∧ p < 65536) (hq0 : 0 ≤ q ∧ q < 65536) : ∀ (k i : Nat) (a : Int), i + k = w.length → -2000000 * (i : Int) ≤ a → a ≤ 2000000 * (i : Int) →
    ∃ e, den pg l60_1 [(1, .i .i64 p), (2, .i .i64 q), (7, .i .i64 a), (10, WT true w), (11, .i .i64 (w.length : Int)), (12, .i .i64 (i : Int))] H = some ⟨.exit 0, e, H⟩ ∧ get e 7 = some (.i .i64 (a + (sumL q (w.drop i) i - sumL p (w.drop i) i)))
  | 0, i, a, h, _, _ => by
    have e1 : ¬ ((i : Int) < (w.length : Int)) := by omega
    refine ⟨[(1, .i .i64 p), (2, .i .i64 q), (7, .i .i64 a), (10, WT true w), (11, .i .i64 (w.length : Int)), (12, .i .i64 (i : Int)), (13, .b false)], ?_, by rw [List.drop_eq_nil_of_le (by omega)]; simp [sumL, Dn.get]⟩
    rw [l60_1, den_loop]
    simp [b60_0, go_nil, go_last, go_past, go_pastR, go_blkN, go_blkR, go_blkE, go_skip, go_exit, go_ret, go_scope, go_seq, go_reg, go_block, go_cond, cnd_b, go_opsN, go_ops, go_opsG, grd_b, grd_u, stp_some, fin_some, up_some, cont_some, k_call, k_mv, k_pick, k_bin, k_eqB, k_eqA, k_not, k_neg, k_conv, k_alloc, k_boxA, k_boxI, k_boxB, k_boxN, k_boxBs, k_ldR, k_ldA, k_ldI, k_ldB, k_stA, k_stI, k_stB, ldC_some, stC_some, k_mkfn, k_slc, k_slcA, k_ixA, k_ixBs, k_ixSl, k_fadr, k_fld, k_ext, k_len, k_app, k_mn, k_mx, k_nilck, k_build, k_bsl1, k_bsl2, b_add, b_sub, b_mul, b_eql, b_neq, b_lss, b_leq, b_gtr, b_geq, Dn.setLast, Dn.getLast, evalO, mapO, Dn.get, putE, keepE, TV.one, TV.isAgg, Dn.part, e1]
  | k + 1, i, a, h, ha, hb => by
    have hi : i < w.length := by omega
    have e1 : ((i : Int) < (w.length : Int)) := by omega
    have e2 : wrapR .i64 ((i : Int) + 1) = .i .i64 ((i : Int) + 1) := wrapR_i64 (by omega)
    have eu : wrapR .u64 (i : Int) = .i .u64 (i : Int) := by unfold wrapR; simp [IntKind.wrap, IntKind.signed, IntKind.bits]; omega
    obtain ⟨r, hr, hv⟩ := ixI (pg := pg) (R := den pg) (WT_view true w H) (List.getElem?_eq_getElem hi)
    have hd : w.drop i = w[i] :: w.drop (i + 1) := List.drop_eq_getElem_cons hi
    have hok : okW w[i] = true := List.all_eq_true.1 hw _ (List.getElem_mem hi)
    have hb1 := bt_mul (p := p) (i := i) hok
    have hb2 := bt_mul (p := q) (i := i) hok
    have r1 := bt_range p i
    have r2 := bt_range q i
    have hmul : w[i] * (bt q i - bt p i) = bt q i * w[i] - bt p i * w[i] := by rw [Int.mul_sub, Int.mul_comm, Int.mul_comm w[i] (bt p i)]
    have e3 : wrapR .i64 (bt q i - bt p i) = .i .i64 (bt q i - bt p i) := wrapR_i64 (by omega)
    have e4 : wrapR .i64 (w[i] * (bt q i - bt p i)) = .i .i64 (w[i] * (bt q i - bt p i)) := wrapR_i64 (by omega)
    have e5 : wrapR .i64 (a + w[i] * (bt q i - bt p i)) = .i .i64 (a + w[i] * (bt q i - bt p i)) := wrapR_i64 (by omega)
    have hs1 := shr_eq (p := p) (i := i) (k := .u64) (by omega)
    have hs2 := shr_eq (p := q) (i := i) (k := .u64) (by omega)
    have hpow : (0 : Int) < 2 ^ i := Int.pow_pos (by decide)
    have n1 : 0 ≤ p / 2 ^ i := Int.ediv_nonneg hp0.1 (Int.le_of_lt hpow)
    have n2 : 0 ≤ q / 2 ^ i := Int.ediv_nonneg hq0.1 (Int.le_of_lt hpow)
    have m1 : p / 2 ^ i ≤ p := Int.ediv_le_self _ hp0.1
    have m2 : q / 2 ^ i ≤ q := Int.ediv_le_self _ hq0.1
    have ha1 : binI .and (.i .i64 (p / 2 ^ i)) (.i .i64 1) = some (.i .i64 (bt p i)) := and1_eq n1 (by omega)
    have ha2 : binI .and (.i .i64 (q / 2 ^ i)) (.i .i64 1) = some (.i .i64 (bt q i)) := and1_eq n2 (by omega)
    obtain ⟨e, h1, h2⟩ := l60_all (pg := pg) (H := H) hw hl hp0 hq0 k (i + 1) (a + w[i] * (bt q i - bt p i)) (by omega) (by omega) (by omega)
    refine ⟨e, Eq.trans ?_ h1, by rw [hd, sumL, sumL, h2, hmul]; congr 2; omega⟩
    rw [l60_1, den_loop]
    simp [l60_1, b60_0, go_nil, go_last, go_past, go_pastR, go_blkN, go_blkR, go_blkE, go_skip, go_exit, go_ret, go_scope, go_seq, go_reg, go_block, go_cond, cnd_b, go_opsN, go_ops, go_opsG, grd_b, grd_u, stp_some, fin_some, up_some, cont_some, k_call, k_mv, k_pick, k_bin, k_eqB, k_eqA, k_not, k_neg, k_conv, k_alloc, k_boxA, k_boxI, k_boxB, k_boxN, k_boxBs, k_ldR, k_ldA, k_ldI, k_ldB, k_stA, k_stI, k_stB, ldC_some, stC_some, k_mkfn, k_slc, k_slcA, k_ixA, k_ixBs, k_ixSl, k_fadr, k_fld, k_ext, k_len, k_app, k_mn, k_mx, k_nilck, k_build, k_bsl1, k_bsl2, b_add, b_sub, b_mul, b_eql, b_neq, b_lss, b_leq, b_gtr, b_geq, Dn.setLast, Dn.getLast, evalO, mapO, Dn.get, putE, keepE, TV.one, TV.isAgg, Dn.part, e1, e2, hr, hv, eu, hs1, hs2, ha1, ha2, e3, e4, e5]

theorem fn60 {pg : Pg} (hF : Free pg) {w : List Int} {p q : Int} (hw : w.all okW = true) (hl : w.length ≤ 16) (hp0 : 0 ≤ p ∧ p < 65536) (hq0 : 0 ≤ q ∧ q < 65536) : Fn pg 60 [WT true w, .i .i64 p, .i .i64 q] (.i .i64 (sumL q w 0 - sumL p w 0)) := by
  obtain ⟨e, h1, h2⟩ := l60_all (pg := pg) (H := []) hw hl hp0 hq0 w.length 0 0 (by omega) (by omega) (by omega)
  simp only [Int.natCast_zero, List.drop_zero, Int.zero_add] at h1 h2
  have hlen := fun H => (WT_view true w H).lenK H
  refine .of1 (x := .ret) (e := [(6, .i .i64 (sumL q w 0 - sumL p w 0))]) (H' := []) (hF.S _ _ (by decide)) (d := d60) (by rw [hF.F]; rfl) rfl ?_ (.inl rfl) rfl (by simp [sn_i, sn_b, sn_nil, sn8_i, sn8_b, sn8_nil, sn7_i, sn7_b, sn_sl, sn8_sl, slB_some, sn_tup, sn_agg, sn8_agg, mapO, elems])
  simp [d60, c60, zipE, go_nil, go_last, go_past, go_pastR, go_blkN, go_blkR, go_blkE, go_skip, go_exit, go_ret, go_scope, go_seq, go_reg, go_block, go_cond, cnd_b, go_opsN, go_ops, go_opsG, grd_b, grd_u, stp_some, fin_some, up_some, cont_some, k_call, k_mv, k_pick, k_bin, k_eqB, k_eqA, k_not, k_neg, k_conv, k_alloc, k_boxA, k_boxI, k_boxB, k_boxN, k_boxBs, k_ldR, k_ldA, k_ldI, k_ldB, k_stA, k_stI, k_stB, ldC_some, stC_some, k_mkfn, k_slc, k_slcA, k_ixA, k_ixBs, k_ixSl, k_fadr, k_fld, k_ext, k_len, k_app, k_mn, k_mx, k_nilck, k_build, k_bsl1, k_bsl2, b_add, b_sub, b_mul, b_eql, b_neq, b_lss, b_leq, b_gtr, b_geq, Dn.setLast, Dn.getLast, evalO, mapO, Dn.get, putE, keepE, TV.one, TV.isAgg, Dn.part, hlen, go_den l60_1, h1, h2]

end Go.Proofs.Try.Dn

/-
  Weights: IsPagoda and Refutes, and the reference's.
-/

namespace Go.Proofs.Try.Dn
open Go.Dn

theorem LW_snap (b : Bool) (l : List Line) (H : Heap) : snap .borrow H 9 (LT b l) = some (LT true l) := snap_LT b H l

section
variable {pg : Pg} (hF : Free pg) {n : Int} {l : List Line} {w : List Int} (hc : chk n l = 0)
include hF hc

theorem fn31 (hl : w.length ≤ 100) : Fn pg 31 [.i .i64 n, LT true l, WT true w] (.tup [.b (wts n w && l.all (lineOk w)), .i .i64 (if wts n w then 0 else 1)]) := by
  obtain ⟨hn, _, _, _⟩ := chk_ok hc
  have ho := opn0 hF hc
  have c58 := fun H => Fn.call (fn58 hF (n := n) (w := w) hn hl) (args := [.i .i64 n, WT true w]) (ks := []) (fs := []) (cs := []) (H := H) (by simp [snapArgs, sn_i, WT_snap])
  cases hw : wts n w with
  | true =>
    rw [hw] at c58
    have c59 := fun H => Fn.call (fn59 hF hw hc) (args := [LT true l, WT true w]) (ks := []) (fs := []) (cs := []) (H := H) (by simp [snapArgs, LW_snap, WT_snap])
    rw [js_all] at c59
    refine .of2 (x := .ret) (e := [(6, .b (l.all (lineOk w))), (7, .i .i64 0)]) (H' := []) (hF.S _ _ (by decide)) (d := d31) (by rw [hF.F]; rfl) rfl ?_ (.inl rfl) (by simp [d31, mapO, resRun, Dn.get]) (by simp) (by simp [sn_i, sn_b, sn_nil, sn8_i, sn8_b, sn8_nil, sn7_i, sn7_b, sn_sl, sn8_sl, slB_some, sn_tup, sn_agg, sn8_agg, mapO, elems])
    simp [d31, c31, zipE, go_nil, go_last, go_past, go_pastR, go_blkN, go_blkR, go_blkE, go_skip, go_exit, go_ret, go_scope, go_seq, go_reg, go_block, go_cond, cnd_b, go_opsN, go_ops, go_opsG, grd_b, grd_u, stp_some, fin_some, up_some, cont_some, k_call, k_mv, k_pick, k_bin, k_eqB, k_eqA, k_not, k_neg, k_conv, k_alloc, k_boxA, k_boxI, k_boxB, k_boxN, k_boxBs, k_ldR, k_ldA, k_ldI, k_ldB, k_stA, k_stI, k_stB, ldC_some, stC_some, k_mkfn, k_slc, k_slcA, k_ixA, k_ixBs, k_ixSl, k_fadr, k_fld, k_ext, k_len, k_app, k_mn, k_mx, k_nilck, k_build, k_bsl1, k_bsl2, b_add, b_sub, b_mul, b_eql, b_neq, b_lss, b_leq, b_gtr, b_geq, Dn.setLast, Dn.getLast, evalO, mapO, Dn.get, putE, keepE, TV.one, TV.isAgg, Dn.part, ho.call, c58, c59]
  | false =>
    rw [hw] at c58
    refine .of2 (x := .ret) (e := [(6, .b false), (7, .i .i64 1)]) (H' := []) (hF.S _ _ (by decide)) (d := d31) (by rw [hF.F]; rfl) rfl ?_ (.inl rfl) (by simp [d31, mapO, resRun, Dn.get]) (by simp) (by simp [sn_i, sn_b, sn_nil, sn8_i, sn8_b, sn8_nil, sn7_i, sn7_b, sn_sl, sn8_sl, slB_some, sn_tup, sn_agg, sn8_agg, mapO, elems])
    simp [d31, c31, zipE, go_nil, go_last, go_past, go_pastR, go_blkN, go_blkR, go_blkE, go_skip, go_exit, go_ret, go_scope, go_seq, go_reg, go_block, go_cond, cnd_b, go_opsN, go_ops, go_opsG, grd_b, grd_u, stp_some, fin_some, up_some, cont_some, k_call, k_mv, k_pick, k_bin, k_eqB, k_eqA, k_not, k_neg, k_conv, k_alloc, k_boxA, k_boxI, k_boxB, k_boxN, k_boxBs, k_ldR, k_ldA, k_ldI, k_ldB, k_stA, k_stI, k_stB, ldC_some, stC_some, k_mkfn, k_slc, k_slcA, k_ixA, k_ixBs, k_ixSl, k_fadr, k_fld, k_ext, k_len, k_app, k_mn, k_mx, k_nilck, k_build, k_bsl1, k_bsl2, b_add, b_sub, b_mul, b_eql, b_neq, b_lss, b_leq, b_gtr, b_geq, Dn.setLast, Dn.getLast, evalO, mapO, Dn.get, putE, keepE, TV.one, TV.isAgg, Dn.part, ho.call, c58]

theorem fn32 (hl : w.length ≤ 100) {p q : Int} (hp : 0 ≤ p ∧ p < (2 : Int) ^ n.toNat) (hq : 0 ≤ q ∧ q < (2 : Int) ^ n.toNat) :
    Fn pg 32 [.i .i64 n, LT true l, .i .i64 p, .i .i64 q, WT true w] (.tup [.b (wts n w && (l.all (lineOk w) && decide (sumL p w 0 < sumL q w 0))), .i .i64 (if wts n w then 0 else 1)]) := by
  obtain ⟨hn, hn2, _, _⟩ := chk_ok hc
  have hpw := pow_le16 ⟨hn, hn2⟩
  have ho := opn2 hF hc p q
  rw [if_neg (by simp [outOf]; omega)] at ho
  have c58 := fun H => Fn.call (fn58 hF (n := n) (w := w) hn hl) (args := [.i .i64 n, WT true w]) (ks := []) (fs := []) (cs := []) (H := H) (by simp [snapArgs, sn_i, WT_snap])
  cases hw : wts n w with
  | true =>
    rw [hw] at c58
    have hwo : w.all okW = true := by simp [wts] at hw; simpa using hw.1
    have hwl : w.length ≤ 16 := by have : (w.length : Int) = n := by simp [wts] at hw; exact hw.2
                                   omega
    have c59 := fun H => Fn.call (fn59 hF hw hc) (args := [LT true l, WT true w]) (ks := []) (fs := []) (cs := []) (H := H) (by simp [snapArgs, LW_snap, WT_snap])
    rw [js_all] at c59
    have c60 := fun H => Fn.call (fn60 hF (p := p) (q := q) hwo hwl (by omega) (by omega)) (args := [WT true w, .i .i64 p, .i .i64 q]) (ks := []) (fs := []) (cs := []) (H := H) (by simp [snapArgs, sn_i, WT_snap])
    have hd : decide (0 < sumL q w 0 - sumL p w 0) = decide (sumL p w 0 < sumL q w 0) := by rw [Bool.eq_iff_iff]; simp
    cases hall : l.all (lineOk w) with
    | true =>
      rw [hall] at c59
      refine .of2 (x := .ret) (e := [(10, .b (decide (sumL p w 0 < sumL q w 0))), (11, .i .i64 0)]) (H' := [.cells [.i .i64 p, .i .i64 q] false]) (hF.S _ _ (by decide)) (d := d32) (by rw [hF.F]; rfl) rfl ?_ (.inl rfl) (by simp [d32, mapO, resRun, Dn.get]) (by simp) (by simp [sn_i, sn_b, sn_nil, sn8_i, sn8_b, sn8_nil, sn7_i, sn7_b, sn_sl, sn8_sl, slB_some, sn_tup, sn_agg, sn8_agg, mapO, elems])
      have h00 := ho.call2
      simp only [d32, c32, zipE]
      simp [go_nil, go_last, go_past, go_pastR, go_blkN, go_blkR, go_blkE, go_skip, go_exit, go_ret, go_scope, go_seq, go_reg, go_block, go_cond, cnd_b, go_opsN, go_ops, go_opsG, grd_b, grd_u, stp_some, fin_some, up_some, cont_some, k_call, k_mv, k_pick, k_bin, k_eqB, k_eqA, k_not, k_neg, k_conv, k_alloc, k_boxA, k_boxI, k_boxB, k_boxN, k_boxBs, k_ldR, k_ldA, k_ldI, k_ldB, k_stA, k_stI, k_stB, ldC_some, stC_some, k_mkfn, k_slc, k_slcA, k_ixA, k_ixBs, k_ixSl, k_fadr, k_fld, k_ext, k_len, k_app, k_mn, k_mx, k_nilck, k_build, k_bsl1, k_bsl2, b_add, b_sub, b_mul, b_eql, b_neq, b_lss, b_leq, b_gtr, b_geq, Dn.setLast, Dn.getLast, evalO, mapO, Dn.get, putE, keepE, TV.one, TV.isAgg, Dn.part, h00, c58, c59, c60]
    | false =>
      rw [hall] at c59
      refine .of2 (x := .ret) (e := [(10, .b false), (11, .i .i64 0)]) (H' := [.cells [.i .i64 p, .i .i64 q] false]) (hF.S _ _ (by decide)) (d := d32) (by rw [hF.F]; rfl) rfl ?_ (.inl rfl) (by simp [d32, mapO, resRun, Dn.get]) (by simp) (by simp [sn_i, sn_b, sn_nil, sn8_i, sn8_b, sn8_nil, sn7_i, sn7_b, sn_sl, sn8_sl, slB_some, sn_tup, sn_agg, sn8_agg, mapO, elems])
      simp [d32, c32, zipE, go_nil, go_last, go_past, go_pastR, go_blkN, go_blkR, go_blkE, go_skip, go_exit, go_ret, go_scope, go_seq, go_reg, go_block, go_cond, cnd_b, go_opsN, go_ops, go_opsG, grd_b, grd_u, stp_some, fin_some, up_some, cont_some, k_call, k_mv, k_pick, k_bin, k_eqB, k_eqA, k_not, k_neg, k_conv, k_alloc, k_boxA, k_boxI, k_boxB, k_boxN, k_boxBs, k_ldR, k_ldA, k_ldI, k_ldB, k_stA, k_stI, k_stB, ldC_some, stC_some, k_mkfn, k_slc, k_slcA, k_ixA, k_ixBs, k_ixSl, k_fadr, k_fld, k_ext, k_len, k_app, k_mn, k_mx, k_nilck, k_build, k_bsl1, k_bsl2, b_add, b_sub, b_mul, b_eql, b_neq, b_lss, b_leq, b_gtr, b_geq, Dn.setLast, Dn.getLast, evalO, mapO, Dn.get, putE, keepE, TV.one, TV.isAgg, Dn.part, ho.call2, c58, c59]
  | false =>
    rw [hw] at c58
    refine .of2 (x := .ret) (e := [(10, .b false), (11, .i .i64 1)]) (H' := [.cells [.i .i64 p, .i .i64 q] false]) (hF.S _ _ (by decide)) (d := d32) (by rw [hF.F]; rfl) rfl ?_ (.inl rfl) (by simp [d32, mapO, resRun, Dn.get]) (by simp) (by simp [sn_i, sn_b, sn_nil, sn8_i, sn8_b, sn8_nil, sn7_i, sn7_b, sn_sl, sn8_sl, slB_some, sn_tup, sn_agg, sn8_agg, mapO, elems])
    simp [d32, c32, zipE, go_nil, go_last, go_past, go_pastR, go_blkN, go_blkR, go_blkE, go_skip, go_exit, go_ret, go_scope, go_seq, go_reg, go_block, go_cond, cnd_b, go_opsN, go_ops, go_opsG, grd_b, grd_u, stp_some, fin_some, up_some, cont_some, k_call, k_mv, k_pick, k_bin, k_eqB, k_eqA, k_not, k_neg, k_conv, k_alloc, k_boxA, k_boxI, k_boxB, k_boxN, k_boxBs, k_ldR, k_ldA, k_ldI, k_ldB, k_stA, k_stI, k_stB, ldC_some, stC_some, k_mkfn, k_slc, k_slcA, k_ixA, k_ixBs, k_ixSl, k_fadr, k_fld, k_ext, k_len, k_app, k_mn, k_mx, k_nilck, k_build, k_bsl1, k_bsl2, b_add, b_sub, b_mul, b_eql, b_neq, b_lss, b_leq, b_gtr, b_geq, Dn.setLast, Dn.getLast, evalO, mapO, Dn.get, putE, keepE, TV.one, TV.isAgg, Dn.part, ho.call2, c58]

theorem fn35 (hw : wts n w = true) {p q : Int} (hp : 0 ≤ p) (hq : 0 ≤ q) : Fn pg 35 [LT true l, .i .i64 p, .i .i64 q, WT true w] (.b (l.all (lineOk w) && decide (sumL p w 0 < sumL q w 0))) := by
  obtain ⟨hn, hn2, _, _⟩ := chk_ok hc
  have hwo : w.all okW = true := by simp [wts] at hw; simpa using hw.1
  have hwl : w.length ≤ 16 := by have : (w.length : Int) = n := by simp [wts] at hw; exact hw.2
                                 omega
  have c34 := fun H => Fn.call (fn34 hF hw hc) (args := [LT true l, WT true w]) (ks := []) (fs := []) (cs := []) (H := H) (by simp [snapArgs, LW_snap, WT_snap])
  have c61 := fun (p : Int) (hp : 0 ≤ p) H => Fn.call (fn61 hF hwo hwl hp) (args := [WT true w, .i .i64 p]) (ks := []) (fs := []) (cs := []) (H := H) (by simp [snapArgs, sn_i, WT_snap])
  refine .of1 (x := .ret) (e := [(8, .b (l.all (lineOk w) && decide (sumL p w 0 < sumL q w 0)))]) (H' := []) (hF.S _ _ (by decide)) (d := d35) (by rw [hF.F]; rfl) rfl ?_ (.inl rfl) rfl (by simp [sn_i, sn_b, sn_nil, sn8_i, sn8_b, sn8_nil, sn7_i, sn7_b, sn_sl, sn8_sl, slB_some, sn_tup, sn_agg, sn8_agg, mapO, elems])
  cases hall : l.all (lineOk w) with
  | true =>
    rw [hall] at c34
    simp [d35, c35, zipE, go_nil, go_last, go_past, go_pastR, go_blkN, go_blkR, go_blkE, go_skip, go_exit, go_ret, go_scope, go_seq, go_reg, go_block, go_cond, cnd_b, go_opsN, go_ops, go_opsG, grd_b, grd_u, stp_some, fin_some, up_some, cont_some, k_call, k_mv, k_pick, k_bin, k_eqB, k_eqA, k_not, k_neg, k_conv, k_alloc, k_boxA, k_boxI, k_boxB, k_boxN, k_boxBs, k_ldR, k_ldA, k_ldI, k_ldB, k_stA, k_stI, k_stB, ldC_some, stC_some, k_mkfn, k_slc, k_slcA, k_ixA, k_ixBs, k_ixSl, k_fadr, k_fld, k_ext, k_len, k_app, k_mn, k_mx, k_nilck, k_build, k_bsl1, k_bsl2, b_add, b_sub, b_mul, b_eql, b_neq, b_lss, b_leq, b_gtr, b_geq, Dn.setLast, Dn.getLast, evalO, mapO, Dn.get, putE, keepE, TV.one, TV.isAgg, Dn.part, c34, c61 p hp, c61 q hq]
  | false =>
    rw [hall] at c34
    simp [d35, c35, zipE, go_nil, go_last, go_past, go_pastR, go_blkN, go_blkR, go_blkE, go_skip, go_exit, go_ret, go_scope, go_seq, go_reg, go_block, go_cond, cnd_b, go_opsN, go_ops, go_opsG, grd_b, grd_u, stp_some, fin_some, up_some, cont_some, k_call, k_mv, k_pick, k_bin, k_eqB, k_eqA, k_not, k_neg, k_conv, k_alloc, k_boxA, k_boxI, k_boxB, k_boxN, k_boxBs, k_ldR, k_ldA, k_ldI, k_ldB, k_stA, k_stI, k_stB, ldC_some, stC_some, k_mkfn, k_slc, k_slcA, k_ixA, k_ixBs, k_ixSl, k_fadr, k_fld, k_ext, k_len, k_app, k_mn, k_mx, k_nilck, k_build, k_bsl1, k_bsl2, b_add, b_sub, b_mul, b_eql, b_neq, b_lss, b_leq, b_gtr, b_geq, Dn.setLast, Dn.getLast, evalO, mapO, Dn.get, putE, keepE, TV.one, TV.isAgg, Dn.part, c34]
end

end Go.Proofs.Try.Dn

/-
  Weights: the statement's rounds.
-/

namespace Go.Proofs.Try.Dn
open Go.Dn

/-- a slice cut at its end -/
theorem own_take {H : Heap} {t : TV} {l : List Int} (h : elI.Own H t l) {k : Nat} (hk : k ≤ l.length) (h1 : 1 ≤ k ∨ l = []) : ∃ t', slcRun false true false 1 false t [.i .i64 (k : Int)] = some t' ∧ elI.Own H t' (l.take k) := by
  have hb : bounds3 false true false l.length [.i .i64 (k : Int)] = some (0, k, none) := by simp [bounds3, bound]
  rcases h with ⟨rfl, rfl⟩ | ⟨h0, id, ag, c, rfl, h2, h3, h4⟩
  · simp at hk; subst hk
    exact ⟨.nilsl, rfl, .inl ⟨rfl, by simp⟩⟩
  · have hk1 : 1 ≤ k := by rcases h1 with h1 | h1; exact h1; exact absurd h1 h0
    have hl : (l.take k).length = k := by simp [hk]
    refine ⟨.sl id 0 1 false k none, ?_, .inr ⟨?_, id, ag, c, by rw [hl]; rfl, h2, ?_, ?_⟩⟩
    · have hsz : elI.sz = 1 := rfl
      have hag : elI.ag = false := rfl
      simp [slcRun, hsz, hag, hb, hk]
    · intro he; rw [he] at hl; simp at hl; omega
    · rw [hl]; have : k * elI.sz ≤ l.length * elI.sz := Nat.mul_le_mul_right _ hk; omega
    · rw [hl, ← El.flat_take, ← h4, List.take_take, Nat.min_eq_left (Nat.mul_le_mul_right _ hk)]

theorem l8_1_all {pg : Pg} {N p q r : TV} {L : TV} : ∀ (k i : Nat) (H : Heap) (t : TV) (w : List Int), i + k = w.length → w.length ≤ 1000 → elI.Own H t w →
    ∃ w' H', den pg l8_1 [(0, N), (7, L), (8, p), (9, q), (10, t), (11, r), (16, .i .i64 (i : Int))] H = some ⟨.exit 2, [(0, N), (7, L), (8, p), (9, q), (10, t), (11, r), (16, .i .i64 (w.length : Int)), (113, .b false)], H'⟩ ∧ elI.Own H' t w' ∧ w'.length = w.length
  | 0, i, H, t, w, h, hl, ho => by
    have e1 : ¬ ((i : Int) < (w.length : Int)) := by omega
    have hlen := ho.view.lenK
    obtain rfl : i = w.length := by omega
    refine ⟨w, H, ?_, ho, rfl⟩
    rw [l8_1, den_loop]
    simp [b8_0, go_nil, go_last, go_past, go_pastR, go_blkN, go_blkR, go_blkE, go_skip, go_exit, go_ret, go_scope, go_seq, go_reg, go_block, go_cond, cnd_b, go_opsN, go_ops, go_opsG, grd_b, grd_u, stp_some, fin_some, up_some, cont_some, k_call, k_mv, k_pick, k_bin, k_eqB, k_eqA, k_not, k_neg, k_conv, k_alloc, k_boxA, k_boxI, k_boxB, k_boxN, k_boxBs, k_ldR, k_ldA, k_ldI, k_ldB, k_stA, k_stI, k_stB, ldC_some, stC_some, k_mkfn, k_slc, k_slcA, k_ixA, k_ixBs, k_ixSl, k_fadr, k_fld, k_ext, k_len, k_app, k_mn, k_mx, k_nilck, k_build, k_bsl1, k_bsl2, b_add, b_sub, b_mul, b_eql, b_neq, b_lss, b_leq, b_gtr, b_geq, Dn.setLast, Dn.getLast, evalO, mapO, Dn.get, putE, keepE, TV.one, TV.isAgg, Dn.part, hlen, e1]
  | k + 1, i, H, t, w, h, hl, ho => by
    have hi : i < w.length := by omega
    have e1 : ((i : Int) < (w.length : Int)) := by omega
    have e2 : wrapR .i64 ((i : Int) + 1) = .i .i64 ((i : Int) + 1) := wrapR_i64 (by omega)
    have hlen := ho.view.lenK
    obtain ⟨a, ha, hv⟩ := ixI (pg := pg) (R := den pg) ho.view (List.getElem?_eq_getElem hi)
    have e3 : ∀ v, wrapR .u64 v = .i .u64 (IntKind.wrap .u64 v) := fun _ => rfl
    have e6 : ∀ a b, wrapR .i64 (Int.tmod a b) = .i .i64 (IntKind.wrap .i64 (Int.tmod a b)) := fun _ _ => rfl
    have e7 : ∀ a, wrapR .i64 (IntKind.wrap .i64 a - 1) = .i .i64 (IntKind.wrap .i64 (IntKind.wrap .i64 a - 1)) := fun _ => rfl
    obtain ⟨b, H1, hb, hs, ho1, hl1, _⟩ := ownSet (pg := pg) (R := den pg) ho hi (IntKind.wrap .i64 (IntKind.wrap .i64 (Int.tmod (IntKind.wrap .u64 w[i]) 5) - 1))
    obtain ⟨w', H', h1, h3, h4⟩ := l8_1_all (pg := pg) (N := N) (p := p) (q := q) (r := r) (L := L) k (i + 1) H1 t _ (by simp; omega) (by simpa using hl) ho1
    simp only [List.length_set] at h1
    refine ⟨w', H', Eq.trans ?_ h1, h3, by simpa using h4⟩
    have hab : b = a := by rw [ha] at hb; simpa using hb.symm
    subst hab
    rw [l8_1, den_loop]
    simp [l8_1, b8_0, go_nil, go_last, go_past, go_pastR, go_blkN, go_blkR, go_blkE, go_skip, go_exit, go_ret, go_scope, go_seq, go_reg, go_block, go_cond, cnd_b, go_opsN, go_ops, go_opsG, grd_b, grd_u, stp_some, fin_some, up_some, cont_some, k_call, k_mv, k_pick, k_bin, k_eqB, k_eqA, k_not, k_neg, k_conv, k_alloc, k_boxA, k_boxI, k_boxB, k_boxN, k_boxBs, k_ldR, k_ldA, k_ldI, k_ldB, k_stA, k_stI, k_stB, ldC_some, stC_some, k_mkfn, k_slc, k_slcA, k_ixA, k_ixBs, k_ixSl, k_fadr, k_fld, k_ext, k_len, k_app, k_mn, k_mx, k_nilck, k_build, k_bsl1, k_bsl2, b_add, b_sub, b_mul, b_eql, b_neq, b_lss, b_leq, b_gtr, b_geq, Dn.setLast, Dn.getLast, evalO, mapO, Dn.get, putE, keepE, TV.one, TV.isAgg, Dn.part, hlen, e1, e2, ha, hv, e3, e6, e7, b_rem, hs]

theorem l8_3_all {pg : Pg} {n : Nat} {p q r : TV} {L : TV} (hn : n ≤ 100) : ∀ (k : Nat) (H : Heap) (t : TV) (w : List Int), n ≤ w.length + k → w.length ≤ 100 → elI.Own H t w →
    ∃ t' w' H', den pg l8_3 [(0, .i .i64 (n : Int)), (7, L), (8, p), (9, q), (10, t), (11, r)] H = some ⟨.exit 4, [(0, .i .i64 (n : Int)), (7, L), (8, p), (9, q), (10, t'), (11, r), (130, .b false)], H'⟩ ∧ elI.Own H' t' w' ∧ w'.length ≤ 100
  | k, H, t, w, h, hl, ho => by
    have hlen := ho.view.lenK
    by_cases hlt : w.length < n
    · match k, h with
      | 0, h => omega
      | k + 1, h =>
        have e1 : ((w.length : Int) < (n : Int)) := by omega
        have ho1 : elI.Own (H ++ [.cells [.i .i64 1] false]) t w := ho.mono fun id hid => by rw [List.getElem?_append_left (ho.lt id hid)]
        have hx : elI.View (H ++ [.cells [.i .i64 1] false]) (.sl H.length 0 1 false 1 (some 1)) [1] :=
          .inr (.inr ⟨H.length, 0, some 1, _, false, rfl, by simp, getLast _ _, by simp [elI], by simp [elI, El.flat]⟩)
        obtain ⟨t1, H1, ha, ho2, _⟩ := El.app (bytes := 8) ho1 hx (by simp; omega)
        have ha' : appRun 1 false 8 t (.sl H.length 0 1 false 1 (some 1)) (H ++ [.cells [.i .i64 1] false]) = some (t1, H1) := ha
        obtain ⟨t', w', H', h1, h3, h4⟩ := l8_3_all (pg := pg) (p := p) (q := q) (r := r) (L := L) hn k H1 t1 _ (by simp; omega) (by simp; omega) ho2
        refine ⟨t', w', H', Eq.trans ?_ h1, h3, h4⟩
        rw [l8_3, den_loop]
        simp [l8_3, b8_2, go_nil, go_last, go_past, go_pastR, go_blkN, go_blkR, go_blkE, go_skip, go_exit, go_ret, go_scope, go_seq, go_reg, go_block, go_cond, cnd_b, go_opsN, go_ops, go_opsG, grd_b, grd_u, stp_some, fin_some, up_some, cont_some, k_call, k_mv, k_pick, k_bin, k_eqB, k_eqA, k_not, k_neg, k_conv, k_alloc, k_boxA, k_boxI, k_boxB, k_boxN, k_boxBs, k_ldR, k_ldA, k_ldI, k_ldB, k_stA, k_stI, k_stB, ldC_some, stC_some, k_mkfn, k_slc, k_slcA, k_ixA, k_ixBs, k_ixSl, k_fadr, k_fld, k_ext, k_len, k_app, k_mn, k_mx, k_nilck, k_build, k_bsl1, k_bsl2, b_add, b_sub, b_mul, b_eql, b_neq, b_lss, b_leq, b_gtr, b_geq, Dn.setLast, Dn.getLast, evalO, mapO, Dn.get, putE, keepE, TV.one, TV.isAgg, Dn.part, hlen, e1, ha']
    · have e1 : ¬ ((w.length : Int) < (n : Int)) := by omega
      refine ⟨t, w, H, ?_, ho, hl⟩
      rw [l8_3, den_loop]
      simp [b8_2, go_nil, go_last, go_past, go_pastR, go_blkN, go_blkR, go_blkE, go_skip, go_exit, go_ret, go_scope, go_seq, go_reg, go_block, go_cond, cnd_b, go_opsN, go_ops, go_opsG, grd_b, grd_u, stp_some, fin_some, up_some, cont_some, k_call, k_mv, k_pick, k_bin, k_eqB, k_eqA, k_not, k_neg, k_conv, k_alloc, k_boxA, k_boxI, k_boxB, k_boxN, k_boxBs, k_ldR, k_ldA, k_ldI, k_ldB, k_stA, k_stI, k_stB, ldC_some, stC_some, k_mkfn, k_slc, k_slcA, k_ixA, k_ixBs, k_ixSl, k_fadr, k_fld, k_ext, k_len, k_app, k_mn, k_mx, k_nilck, k_build, k_bsl1, k_bsl2, b_add, b_sub, b_mul, b_eql, b_neq, b_lss, b_leq, b_gtr, b_geq, Dn.setLast, Dn.getLast, evalO, mapO, Dn.get, putE, keepE, TV.one, TV.isAgg, Dn.part, hlen, e1]

theorem l8_5_round {pg : Pg} (hF : Free pg) {n : Nat} {l : List Line} (hc : chk (n : Int) l = 0) {p q : Int} (hp : 0 ≤ p ∧ p < (2 : Int) ^ n) (hq : 0 ≤ q ∧ q < (2 : Int) ^ n) {H : Heap} {t : TV} {w : List Int} {r : Int} (hr : 0 ≤ r ∧ r < 2) (ho : elI.Own H t w) (hl : w.length ≤ 100) :
    ∃ t' w' H', den pg l8_5 [(0, .i .i64 (n : Int)), (7, LT false l), (8, .i .i64 p), (9, .i .i64 q), (10, t), (11, .i .i64 r)] H = den pg l8_5 [(0, .i .i64 (n : Int)), (7, LT false l), (8, .i .i64 p), (9, .i .i64 q), (10, t'), (11, .i .i64 (r + 1))] H' ∧ elI.Own H' t' w' ∧ w'.length ≤ 100 := by
  obtain ⟨hn1, hn2, _, _⟩ := chk_ok hc
  have hlen := ho.view.lenK
  have hws := ho.snap elI_flat
  have e0 : r < 2 := hr.2
  have e2 : wrapR .i64 (r + 1) = .i .i64 (r + 1) := wrapR_i64 (by omega)
  have c31 := Fn.call (fn31 hF hc hl) (args := [.i .i64 (n : Int), LT false l, t]) (ks := []) (fs := []) (cs := []) (H := H) (by simp [snapArgs, sn_i, LW_snap, hws, WT])
  have c32 := Fn.call (fn32 hF hc hl (p := p) (q := q) (by simpa using hp) (by simpa using hq)) (args := [.i .i64 (n : Int), LT false l, .i .i64 p, .i .i64 q, t]) (ks := []) (fs := []) (cs := []) (H := H) (by simp [snapArgs, sn_i, LW_snap, hws, WT])
  have c33 := Fn.call (fn33 hF (n := (n : Int)) (W := WT true w) (fun H => WT_view true w H) (by omega)) (args := [.i .i64 (n : Int), t]) (ks := []) (fs := []) (cs := []) (H := H) (by simp [snapArgs, sn_i, hws, WT])
  obtain ⟨kk, hkk⟩ : ∃ kk, kk = min w.length n := ⟨_, rfl⟩
  have hk : kk ≤ w.length := by omega
  obtain ⟨t1, s1, o1⟩ := own_take ho hk (by cases w with | nil => exact .inr rfl | cons x w => left; simp only [List.length_cons] at hkk; omega)
  obtain ⟨w2, H2, h2, o2, hl2⟩ := l8_1_all (pg := pg) (N := .i .i64 (n : Int)) (p := .i .i64 p) (q := .i .i64 q) (r := .i .i64 r) (L := LT false l) kk 0 H t1 (w.take kk) (by simp; omega) (by simp; omega) o1
  obtain ⟨t3, w3, H3, h3, o3, hl3⟩ := l8_3_all (pg := pg) (n := n) (p := .i .i64 p) (q := .i .i64 q) (r := .i .i64 r) (L := LT false l) (by omega) n H2 t1 w2 (by omega) (by rw [hl2]; simp; omega) o2
  simp only [Int.natCast_zero] at h2
  refine ⟨t3, w3, H3, ?_, o3, hl3⟩
  have hmin : (if n < w.length then (n : Int) else (w.length : Int)) = (kk : Int) := by
    split <;> omega
  cases hw : wts (n : Int) w with
  | true =>
    rw [hw] at c31 c32 c33
    have c34 := Fn.call (fn34 hF hw hc) (args := [LT false l, t]) (ks := []) (fs := []) (cs := []) (H := H) (by simp [snapArgs, LW_snap, hws, WT])
    have c35 := Fn.call (fn35 hF hc hw hp.1 hq.1) (args := [LT false l, .i .i64 p, .i .i64 q, t]) (ks := []) (fs := []) (cs := []) (H := H) (by simp [snapArgs, sn_i, LW_snap, hws, WT])
    rw [l8_5, den_loop]
    simp [l8_5, b8_4, go_nil, go_last, go_past, go_pastR, go_blkN, go_blkR, go_blkE, go_skip, go_exit, go_ret, go_scope, go_seq, go_reg, go_block, go_cond, cnd_b, go_opsN, go_ops, go_opsG, grd_b, grd_u, stp_some, fin_some, up_some, cont_some, k_call, k_mv, k_pick, k_bin, k_eqB, k_eqA, k_not, k_neg, k_conv, k_alloc, k_boxA, k_boxI, k_boxB, k_boxN, k_boxBs, k_ldR, k_ldA, k_ldI, k_ldB, k_stA, k_stI, k_stB, ldC_some, stC_some, k_mkfn, k_slc, k_slcA, k_ixA, k_ixBs, k_ixSl, k_fadr, k_fld, k_ext, k_len, k_app, k_mn, k_mx, k_nilck, k_build, k_bsl1, k_bsl2, b_add, b_sub, b_mul, b_eql, b_neq, b_lss, b_leq, b_gtr, b_geq, Dn.setLast, Dn.getLast, evalO, mapO, Dn.get, putE, keepE, TV.one, TV.isAgg, Dn.part, e0, e2, c31, c32, c33, c34, c35, negb, hlen, hmin, s1, go_denK (c := l8_1) rfl, go_denK (c := l8_3) rfl, h2, h3]
  | false =>
    rw [hw] at c31 c32 c33
    rw [l8_5, den_loop]
    simp [l8_5, b8_4, go_nil, go_last, go_past, go_pastR, go_blkN, go_blkR, go_blkE, go_skip, go_exit, go_ret, go_scope, go_seq, go_reg, go_block, go_cond, cnd_b, go_opsN, go_ops, go_opsG, grd_b, grd_u, stp_some, fin_some, up_some, cont_some, k_call, k_mv, k_pick, k_bin, k_eqB, k_eqA, k_not, k_neg, k_conv, k_alloc, k_boxA, k_boxI, k_boxB, k_boxN, k_boxBs, k_ldR, k_ldA, k_ldI, k_ldB, k_stA, k_stI, k_stB, ldC_some, stC_some, k_mkfn, k_slc, k_slcA, k_ixA, k_ixBs, k_ixSl, k_fadr, k_fld, k_ext, k_len, k_app, k_mn, k_mx, k_nilck, k_build, k_bsl1, k_bsl2, b_add, b_sub, b_mul, b_eql, b_neq, b_lss, b_leq, b_gtr, b_geq, Dn.setLast, Dn.getLast, evalO, mapO, Dn.get, putE, keepE, TV.one, TV.isAgg, Dn.part, e0, e2, c31, c32, c33, hlen, hmin, s1, go_denK (c := l8_1) rfl, go_denK (c := l8_3) rfl, h2, h3]

end Go.Proofs.Try.Dn

/-
  PegWeights: the whole run answers true.
-/

namespace Go.Proofs.Try.Dn
open Go.Dn

theorem b_shlu {n : Nat} (hn : n ≤ 16) : binI .shl (.i .u64 1) (.i .i64 (n : Int)) = some (.i .u64 ((2 : Int) ^ n)) := by
  have h1 : min n 64 = n := by omega
  have h2 : (2 : Int) ^ n ≤ 65536 ∧ 1 ≤ (2 : Int) ^ n := by
    have : ∀ k : Nat, k ≤ 16 → (2 : Int) ^ k ≤ 65536 ∧ 1 ≤ (2 : Int) ^ k := by decide
    exact this n hn
  have h3 : wrapR .u64 ((2 : Int) ^ n) = .i .u64 ((2 : Int) ^ n) := by unfold wrapR; simp [IntKind.wrap, IntKind.signed, IntKind.bits]; omega
  simp [binI, IntKind.bits, h1, h3]

/-- a number as a position -/
def posOf (n : Nat) (P : Int) : Int := Int.tmod (IntKind.wrap .u64 P) (2 ^ n)

theorem posOf_range {n : Nat} (hn : n ≤ 16) (P : Int) : 0 ≤ posOf n P ∧ posOf n P < (2 : Int) ^ n := by
  have h2 : 1 ≤ (2 : Int) ^ n := by
    have : ∀ k : Nat, k ≤ 16 → 1 ≤ (2 : Int) ^ k := by decide
    exact this n hn
  have h0 : 0 ≤ IntKind.wrap .u64 P := by simp [IntKind.wrap, IntKind.signed, IntKind.bits]; omega
  unfold posOf
  rw [Int.tmod_eq_emod_of_nonneg h0]
  exact ⟨Int.emod_nonneg _ (by omega), Int.emod_lt_of_pos _ (by omega)⟩

theorem posOf_i64 {n : Nat} (hn : n ≤ 16) (P : Int) : wrapR .i64 (Int.tmod (IntKind.wrap .u64 P) (2 ^ n)) = .i .i64 (posOf n P) := by
  have h := posOf_range hn P
  have h2 : (2 : Int) ^ n ≤ 65536 := by
    have : ∀ k : Nat, k ≤ 16 → (2 : Int) ^ k ≤ 65536 := by decide
    exact this n hn
  exact wrapR_i64 (by unfold posOf at h; omega)

theorem run8 {pg : Pg} (hF : Free pg) (h22 : Fn pg 22 [] (.b true)) (n : Int) (t : TV) (l : List Line) (P Q : Int) (W : TV) (ws : List Int) (ht : IsLines t l) (hW : ∀ H, elI.View H W ws) (hW1 : W.one = true) (hWa : W.isAgg = false) :
    ∃ H, bodyRun pg (den pg) 8 [.i .i64 n, t, .agg [.i .i64 P, .i .i64 Q, W]] [] = some (.b true, H) := by
  obtain ⟨N, m, hN1, hN2, hm, hc, h18⟩ := call18 hF (n := n) (most := 16) (many := 20) (by omega) ht (by omega)
  simp only [Int.cast_ofNat_Int] at h18
  obtain ⟨k, rfl⟩ : ∃ k : Nat, N = (k : Int) := ⟨N.toNat, by omega⟩
  have hk : k ≤ 16 := by omega
  have e3 : ∀ v, wrapR .u64 v = .i .u64 (IntKind.wrap .u64 v) := fun _ => rfl
  have h2 : ¬ (2 : Int) ^ k = 0 := by
    have := posOf_range hk 0
    omega
  have hlenW := fun H H' => (hW H).lenK H'
  have hpos := posOf_i64 hk
  have hsh := b_shlu hk
  let H0 : Heap := [.cells [.i .i64 P, .i .i64 Q, W] true]
  have hmin : min ws.length 17 ≤ ws.length := Nat.min_le_left _ _
  obtain ⟨kk, hkk⟩ : ∃ kk, kk = min ws.length 17 := ⟨_, rfl⟩
  obtain ⟨v, s1, w1, _⟩ := (hW H0).slc (lo := 0) (hi := kk) (bl := false) (bh := true) (vs := [.i .i64 (kk : Int)]) (Nat.zero_le _) (by omega) (by simp [bounds3, bound])
  obtain ⟨t1, H1, a1, o1, _⟩ := El.app (E := elI) (bytes := 8) (H := H0) (t := .nilsl) (l := []) (.inl ⟨rfl, rfl⟩) w1 (by simp; omega)
  have s1' : slcRun false true false 1 false W [.i .i64 (kk : Int)] = some v := s1
  have a1' : appRun 1 false 8 .nilsl v [.cells [.i .i64 P, .i .i64 Q, W] true] = some (t1, H1) := a1
  obtain ⟨t2, w2, H2, r1, o2, l2⟩ := l8_5_round hF hc (posOf_range hk P) (posOf_range hk Q) (r := 0) (by omega) o1 (by simp; omega)
  obtain ⟨t3, w3, H3, r2, o3, l3⟩ := l8_5_round hF hc (posOf_range hk P) (posOf_range hk Q) (r := 1) (by omega) o2 l2
  have r3 : den pg l8_5 [(0, .i .i64 (k : Int)), (7, LT false m), (8, .i .i64 (posOf k P)), (9, .i .i64 (posOf k Q)), (10, t3), (11, .i .i64 2)] H3 = some ⟨.exit 0, [(0, .i .i64 (k : Int)), (7, LT false m), (8, .i .i64 (posOf k P)), (9, .i .i64 (posOf k Q)), (10, t3), (11, .i .i64 2), (47, .b false)], H3⟩ := by
    rw [l8_5, den_loop]
    simp [b8_4, go_nil, go_last, go_past, go_pastR, go_blkN, go_blkR, go_blkE, go_skip, go_exit, go_ret, go_scope, go_seq, go_reg, go_block, go_cond, cnd_b, go_opsN, go_ops, go_opsG, grd_b, grd_u, stp_some, fin_some, up_some, cont_some, k_call, k_mv, k_pick, k_bin, k_eqB, k_eqA, k_not, k_neg, k_conv, k_alloc, k_boxA, k_boxI, k_boxB, k_boxN, k_boxBs, k_ldR, k_ldA, k_ldI, k_ldB, k_stA, k_stI, k_stB, ldC_some, stC_some, k_mkfn, k_slc, k_slcA, k_ixA, k_ixBs, k_ixSl, k_fadr, k_fld, k_ext, k_len, k_app, k_mn, k_mx, k_nilck, k_build, k_bsl1, k_bsl2, b_add, b_sub, b_mul, b_eql, b_neq, b_lss, b_leq, b_gtr, b_geq, Dn.setLast, Dn.getLast, evalO, mapO, Dn.get, putE, keepE, TV.one, TV.isAgg, Dn.part]
  have hr := r1.trans (r2.trans r3)
  have hmin2 : (if (17 : Int) < (ws.length : Int) then (17 : Int) else (ws.length : Int)) = (kk : Int) := by split <;> omega
  have c22 := fun H => Fn.call h22 (args := []) (ks := []) (fs := []) (cs := []) (H := H) (by simp [snapArgs])
  refine ⟨H3, bodyRun_of (o := ⟨.ret, [(6, .b true)], H3⟩) (vs := [.b true]) (d := d8) (by rw [hF.F]; rfl) rfl ?_ (by simp) rfl⟩
  rw [runC_go]
  have hbox : ∀ H, dkc pg (den pg) (.box true) [.agg [.i .i64 P, .i .i64 Q, W]] H = some (.ref H.length 0, H ++ [.cells [.i .i64 P, .i .i64 Q, W] true]) := fun H => k_boxA _ _ (by rw [List.all_cons, List.all_cons, List.all_cons, hW1]; rfl)
  have hag := hWa
  unfold TV.isAgg at hag
  simp [d8, c8, zipE, go_nil, go_last, go_past, go_pastR, go_blkN, go_blkR, go_blkE, go_skip, go_exit, go_ret, go_scope, go_seq, go_reg, go_block, go_cond, cnd_b, go_opsN, go_ops, go_opsG, grd_b, grd_u, stp_some, fin_some, up_some, cont_some, k_call, k_mv, k_pick, k_bin, k_eqB, k_eqA, k_not, k_neg, k_conv, k_alloc, k_boxA, k_boxI, k_boxB, k_boxN, k_boxBs, k_ldR, k_ldA, k_ldI, k_ldB, k_stA, k_stI, k_stB, ldC_some, stC_some, k_mkfn, k_slc, k_slcA, k_ixA, k_ixBs, k_ixSl, k_fadr, k_fld, k_ext, k_len, k_app, k_mn, k_mx, k_nilck, k_build, k_bsl1, k_bsl2, b_add, b_sub, b_mul, b_eql, b_neq, b_lss, b_leq, b_gtr, b_geq, Dn.setLast, Dn.getLast, evalO, mapO, Dn.get, putE, keepE, TV.one, TV.isAgg, Dn.part, hbox, h18, e3, hsh, b_rem, h2, hpos, hlenW [], hag, hmin2, s1', a1', go_denK (c := l8_5) rfl, hr, c22]

end Go.Proofs.Try.Dn

