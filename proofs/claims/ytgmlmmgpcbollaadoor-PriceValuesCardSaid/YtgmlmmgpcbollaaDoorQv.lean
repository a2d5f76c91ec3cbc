/-
  Whether integers are numbers of a taste: both.
-/
import Derived.Test.YtgmlmmgpcbollaaDoorQu
set_option linter.unusedSimpArgs false
set_option linter.unusedVariables false

namespace Go.Proofs.Tryd.Dn
open Go.Dn

def minL (l : List Int) (m : Int) : Int := l.foldl (fun m x => min m x) m
def maxL (l : List Int) (m : Int) : Int := l.foldl (fun m x => max m x) m

theorem minL_lt {B : Int} : ∀ (l : List Int) (m : Int), minL l m < B ↔ m < B ∨ ∃ x ∈ l, x < B
  | [], m => by simp [minL]
  | y :: l, m => by
    have ih := minL_lt (B := B) l (min m y)
    unfold minL at ih ⊢
    rw [List.foldl_cons, ih]
    simp only [List.mem_cons, exists_eq_or_imp]
    constructor
    · rintro (h | h)
      · by_cases hm : m < B
        · exact .inl hm
        · exact .inr (.inl (by omega))
      · exact .inr (.inr h)
    · rintro (h | h | h)
      · exact .inl (by omega)
      · exact .inl (by omega)
      · exact .inr h
theorem maxL_gt {B : Int} : ∀ (l : List Int) (m : Int), B < maxL l m ↔ B < m ∨ ∃ x ∈ l, B < x
  | [], m => by simp [maxL]
  | y :: l, m => by
    have ih := maxL_gt (B := B) l (max m y)
    unfold maxL at ih ⊢
    rw [List.foldl_cons, ih]
    simp only [List.mem_cons, exists_eq_or_imp]
    constructor
    · rintro (h | h)
      · by_cases hm : B < m
        · exact .inl hm
        · exact .inr (.inl (by omega))
      · exact .inr (.inr h)
    · rintro (h | h | h)
      · exact .inl (by omega)
      · exact .inl (by omega)
      · exact .inr h

theorem k_mn2 {pg : Pg} {R : Rec} (x y : Int) (H : Heap) : dkc pg R .mnI [.i .i64 x, .i .i64 y] H = some (.i .i64 (min x y), H) := by
  have h1 : (if y < x then y else x) = min x y := by split <;> omega
  simp only [dkc, dk, foldI, if_true, h1, Option.map_some]

theorem l78_all {pg : Pg} {T : TV} {l : List Int} (hT : ∀ H, elI.View H T l) (hl : l.length ≤ 1000000) {H : Heap} : ∀ (d i : Nat) (m : Int), i + d = l.length →
    ∃ e, den pg l78_1 [(0, T), (3, .i .i64 m), (4, .i .i64 (i : Int))] H = some ⟨.exit 0, e, H⟩ ∧ Dn.get e 3 = some (.i .i64 (minL (l.drop i) m))
  | 0, i, m, h => by
    have e1 : ¬ ((i : Int) < (l.length : Int)) := by omega
    have hlen := (hT H).lenK
    refine ⟨[(0, T), (3, .i .i64 m), (4, .i .i64 (i : Int)), (15, .b false)], ?_, ?_⟩
    · rw [l78_1, den_loop]
      simp [b78_0, go_nil, go_last, go_past, go_pastR, go_blkN, go_blkR, go_blkE, go_skip, go_exit, go_ret, go_scope, go_seq, go_reg, go_block, go_cond, cnd_b, go_opsN, go_ops, go_opsG, grd_b, grd_u, stp_some, fin_some, up_some, cont_some, k_call, k_mv, k_pick, k_bin, k_eqB, k_eqA, k_not, k_neg, k_conv, k_alloc, k_boxA, k_boxI, k_boxB, k_boxN, k_boxBs, k_ldR, k_ldA, k_ldI, k_ldB, k_stA, k_stI, k_stB, ldC_some, stC_some, k_mkfn, k_slc, k_slcA, k_ixA, k_ixBs, k_ixSl, k_fadr, k_fld, k_ext, k_len, k_app, k_mn, k_mx, k_nilck, k_build, k_bsl1, k_bsl2, b_add, b_sub, b_mul, b_eql, b_neq, b_lss, b_leq, b_gtr, b_geq, Dn.setLast, Dn.getLast, evalO, mapO, Dn.get, putE, keepE, TV.one, TV.isAgg, Dn.part, hlen, e1]
    · rw [List.drop_eq_nil_of_le (by omega)]; rfl
  | d + 1, i, m, h => by
    have hi : i < l.length := by omega
    have e1 : ((i : Int) < (l.length : Int)) := by omega
    have e2 : wrapR .i64 ((i : Int) + 1) = .i .i64 ((i : Int) + 1) := wrapR_i64 (by omega)
    have hlen := (hT H).lenK
    obtain ⟨p, hp, hv⟩ := ixI (pg := pg) (R := den pg) (hT H) (List.getElem?_eq_getElem hi)
    have hmn := k_mn2 (pg := pg) (R := den pg) m l[i] H
    obtain ⟨e, h1, h2⟩ := l78_all (pg := pg) hT hl (H := H) d (i + 1) (min m l[i]) (by omega)
    refine ⟨e, Eq.trans ?_ h1, by rw [h2, List.drop_eq_getElem_cons hi]; rfl⟩
    generalize min m l[i] = mm at *
    generalize l[i] = x at *
    rw [l78_1, den_loop]
    simp [l78_1, b78_0, go_nil, go_last, go_past, go_pastR, go_blkN, go_blkR, go_blkE, go_skip, go_exit, go_ret, go_scope, go_seq, go_reg, go_block, go_cond, cnd_b, go_opsN, go_ops, go_opsG, grd_b, grd_u, stp_some, fin_some, up_some, cont_some, k_call, k_mv, k_pick, k_bin, k_eqB, k_eqA, k_not, k_neg, k_conv, k_alloc, k_boxA, k_boxI, k_boxB, k_boxN, k_boxBs, k_ldR, k_ldA, k_ldI, k_ldB, k_stA, k_stI, k_stB, ldC_some, stC_some, k_mkfn, k_slc, k_slcA, k_ixA, k_ixBs, k_ixSl, k_fadr, k_fld, k_ext, k_len, k_app, k_mn, k_mx, k_nilck, k_build, k_bsl1, k_bsl2, b_add, b_sub, b_mul, b_eql, b_neq, b_lss, b_leq, b_gtr, b_geq, Dn.setLast, Dn.getLast, evalO, mapO, Dn.get, putE, keepE, TV.one, TV.isAgg, Dn.part, hlen, e1, e2, hp, hv, hmn]

theorem l89_all {pg : Pg} {T : TV} {l : List Int} (hT : ∀ H, elI.View H T l) (hl : l.length ≤ 1000000) {H : Heap} : ∀ (d i : Nat) (m : Int), i + d = l.length →
    ∃ e, den pg l89_1 [(0, T), (3, .i .i64 m), (4, .i .i64 (i : Int))] H = some ⟨.exit 0, e, H⟩ ∧ Dn.get e 3 = some (.i .i64 (maxL (l.drop i) m))
  | 0, i, m, h => by
    have e1 : ¬ ((i : Int) < (l.length : Int)) := by omega
    have hlen := (hT H).lenK
    refine ⟨[(0, T), (3, .i .i64 m), (4, .i .i64 (i : Int)), (15, .b false)], ?_, ?_⟩
    · rw [l89_1, den_loop]
      simp [b89_0, go_nil, go_last, go_past, go_pastR, go_blkN, go_blkR, go_blkE, go_skip, go_exit, go_ret, go_scope, go_seq, go_reg, go_block, go_cond, cnd_b, go_opsN, go_ops, go_opsG, grd_b, grd_u, stp_some, fin_some, up_some, cont_some, k_call, k_mv, k_pick, k_bin, k_eqB, k_eqA, k_not, k_neg, k_conv, k_alloc, k_boxA, k_boxI, k_boxB, k_boxN, k_boxBs, k_ldR, k_ldA, k_ldI, k_ldB, k_stA, k_stI, k_stB, ldC_some, stC_some, k_mkfn, k_slc, k_slcA, k_ixA, k_ixBs, k_ixSl, k_fadr, k_fld, k_ext, k_len, k_app, k_mn, k_mx, k_nilck, k_build, k_bsl1, k_bsl2, b_add, b_sub, b_mul, b_eql, b_neq, b_lss, b_leq, b_gtr, b_geq, Dn.setLast, Dn.getLast, evalO, mapO, Dn.get, putE, keepE, TV.one, TV.isAgg, Dn.part, hlen, e1]
    · rw [List.drop_eq_nil_of_le (by omega)]; rfl
  | d + 1, i, m, h => by
    have hi : i < l.length := by omega
    have e1 : ((i : Int) < (l.length : Int)) := by omega
    have e2 : wrapR .i64 ((i : Int) + 1) = .i .i64 ((i : Int) + 1) := wrapR_i64 (by omega)
    have hlen := (hT H).lenK
    obtain ⟨p, hp, hv⟩ := ixI (pg := pg) (R := den pg) (hT H) (List.getElem?_eq_getElem hi)
    have hmn := k_mx2 (pg := pg) (R := den pg) m l[i] H
    obtain ⟨e, h1, h2⟩ := l89_all (pg := pg) hT hl (H := H) d (i + 1) (max m l[i]) (by omega)
    refine ⟨e, Eq.trans ?_ h1, by rw [h2, List.drop_eq_getElem_cons hi]; rfl⟩
    generalize max m l[i] = mm at *
    generalize l[i] = x at *
    rw [l89_1, den_loop]
    simp [l89_1, b89_0, go_nil, go_last, go_past, go_pastR, go_blkN, go_blkR, go_blkE, go_skip, go_exit, go_ret, go_scope, go_seq, go_reg, go_block, go_cond, cnd_b, go_opsN, go_ops, go_opsG, grd_b, grd_u, stp_some, fin_some, up_some, cont_some, k_call, k_mv, k_pick, k_bin, k_eqB, k_eqA, k_not, k_neg, k_conv, k_alloc, k_boxA, k_boxI, k_boxB, k_boxN, k_boxBs, k_ldR, k_ldA, k_ldI, k_ldB, k_stA, k_stI, k_stB, ldC_some, stC_some, k_mkfn, k_slc, k_slcA, k_ixA, k_ixBs, k_ixSl, k_fadr, k_fld, k_ext, k_len, k_app, k_mn, k_mx, k_nilck, k_build, k_bsl1, k_bsl2, b_add, b_sub, b_mul, b_eql, b_neq, b_lss, b_leq, b_gtr, b_geq, Dn.setLast, Dn.getLast, evalO, mapO, Dn.get, putE, keepE, TV.one, TV.isAgg, Dn.part, hlen, e1, e2, hp, hv, hmn]

theorem call78 {pg : Pg} (hF : Free pg) {T : TV} {x : Int} {l : List Int} (hT : SV T (x :: l)) (hl : l.length ≤ 1000) (H : Heap) : callRun pg (den pg) (.pu []) [.fn 78 [] [], T] H = some (.i .i64 (minL l x), H) := by
  obtain ⟨T', s1, s2⟩ := hT.snap H 7
  have hlen := (s2.view []).lenK
  simp only [List.length_cons] at hlen
  obtain ⟨p, hp, hv⟩ := ixI (pg := pg) (R := den pg) (s2.view []) (i := 0) (x := x) rfl
  simp only [Int.natCast_zero] at hp
  have e0 : ¬ (((l.length + 1 : Nat) : Int) < 1) := by omega
  obtain ⟨e, h1, h2⟩ := l78_all (pg := pg) (fun H => s2.view H) (by simp; omega) (H := []) l.length 1 x (by simp; omega)
  simp only [Int.natCast_one, List.drop_succ_cons, List.drop_zero] at h1 h2
  refine PFn.call (xs := [T']) (.of1 (x := .ret) (e := [(2, .i .i64 (minL l x))]) (H' := []) (hF.S _ _ (by decide)) (d := d78) (by rw [hF.F]; rfl) rfl ?_ (.inl rfl) rfl (by simp [sn_i, sn_b, sn_nil, sn8_i, sn8_b, sn8_nil, sn7_i, sn7_b, sn_sl, sn8_sl, slB_some, sn_tup, sn_agg, sn8_agg, mapO, elems])) (args := [T]) (by simp [snapArgs, s1])
  generalize ((l.length + 1 : Nat) : Int) = ll at *
  generalize minL l x = mm at *
  simp [d78, c78, zipE, go_nil, go_last, go_past, go_pastR, go_blkN, go_blkR, go_blkE, go_skip, go_exit, go_ret, go_scope, go_seq, go_reg, go_block, go_cond, cnd_b, go_opsN, go_ops, go_opsG, grd_b, grd_u, stp_some, fin_some, up_some, cont_some, k_call, k_mv, k_pick, k_bin, k_eqB, k_eqA, k_not, k_neg, k_conv, k_alloc, k_boxA, k_boxI, k_boxB, k_boxN, k_boxBs, k_ldR, k_ldA, k_ldI, k_ldB, k_stA, k_stI, k_stB, ldC_some, stC_some, k_mkfn, k_slc, k_slcA, k_ixA, k_ixBs, k_ixSl, k_fadr, k_fld, k_ext, k_len, k_app, k_mn, k_mx, k_nilck, k_build, k_bsl1, k_bsl2, b_add, b_sub, b_mul, b_eql, b_neq, b_lss, b_leq, b_gtr, b_geq, Dn.setLast, Dn.getLast, evalO, mapO, Dn.get, putE, keepE, TV.one, TV.isAgg, Dn.part, hlen, e0, hp, hv, go_denK (c := l78_1) rfl, h1, h2]
  omega

theorem call89 {pg : Pg} (hF : Free pg) {T : TV} {x : Int} {l : List Int} (hT : SV T (x :: l)) (hl : l.length ≤ 1000) (H : Heap) : callRun pg (den pg) (.pu []) [.fn 89 [] [], T] H = some (.i .i64 (maxL l x), H) := by
  obtain ⟨T', s1, s2⟩ := hT.snap H 7
  have hlen := (s2.view []).lenK
  simp only [List.length_cons] at hlen
  obtain ⟨p, hp, hv⟩ := ixI (pg := pg) (R := den pg) (s2.view []) (i := 0) (x := x) rfl
  simp only [Int.natCast_zero] at hp
  have e0 : ¬ (((l.length + 1 : Nat) : Int) < 1) := by omega
  obtain ⟨e, h1, h2⟩ := l89_all (pg := pg) (fun H => s2.view H) (by simp; omega) (H := []) l.length 1 x (by simp; omega)
  simp only [Int.natCast_one, List.drop_succ_cons, List.drop_zero] at h1 h2
  refine PFn.call (xs := [T']) (.of1 (x := .ret) (e := [(2, .i .i64 (maxL l x))]) (H' := []) (hF.S _ _ (by decide)) (d := d89) (by rw [hF.F]; rfl) rfl ?_ (.inl rfl) rfl (by simp [sn_i, sn_b, sn_nil, sn8_i, sn8_b, sn8_nil, sn7_i, sn7_b, sn_sl, sn8_sl, slB_some, sn_tup, sn_agg, sn8_agg, mapO, elems])) (args := [T]) (by simp [snapArgs, s1])
  generalize ((l.length + 1 : Nat) : Int) = ll at *
  generalize maxL l x = mm at *
  simp [d89, c89, zipE, go_nil, go_last, go_past, go_pastR, go_blkN, go_blkR, go_blkE, go_skip, go_exit, go_ret, go_scope, go_seq, go_reg, go_block, go_cond, cnd_b, go_opsN, go_ops, go_opsG, grd_b, grd_u, stp_some, fin_some, up_some, cont_some, k_call, k_mv, k_pick, k_bin, k_eqB, k_eqA, k_not, k_neg, k_conv, k_alloc, k_boxA, k_boxI, k_boxB, k_boxN, k_boxBs, k_ldR, k_ldA, k_ldI, k_ldB, k_stA, k_stI, k_stB, ldC_some, stC_some, k_mkfn, k_slc, k_slcA, k_ixA, k_ixBs, k_ixSl, k_fadr, k_fld, k_ext, k_len, k_app, k_mn, k_mx, k_nilck, k_build, k_bsl1, k_bsl2, b_add, b_sub, b_mul, b_eql, b_neq, b_lss, b_leq, b_gtr, b_geq, Dn.setLast, Dn.getLast, evalO, mapO, Dn.get, putE, keepE, TV.one, TV.isAgg, Dn.part, hlen, e0, hp, hv, go_denK (c := l89_1) rfl, h1, h2]
  omega

/-! numbers of a taste -/

structure arN (X : List Obs) (us ls : List Int) : Prop where
  lu : us.length = X.length
  ll : ls.length = X.length
  ru : ∀ x ∈ us, -10000000000000000 ≤ x ∧ x ≤ 10000000000000000
  rl : ∀ x ∈ ls, 1 ≤ x ∧ x ≤ 10000000000000
  ok : ∀ i k, i < X.length → k < X.length → us.getD k 0 ≤ us.getD i 0 + ls.getD i 0 * ovr X i k

structure arR (X : List Obs) (us ls : List Int) : Prop where
  lu : us.length = X.length
  ll : ls.length = X.length
  ru : ∀ x ∈ us, -10000000000000000 ≤ x ∧ x ≤ 10000000000000000
  rl : ∀ x ∈ ls, 1 ≤ x ∧ x ≤ 10000000000000

theorem ar_fit {X : List Obs} {g : Nat} (hm : Market X g) {us ls : List Int} (h : arR X us ls) {i k : Nat} (hi : i < X.length) (hk : k < X.length) :
    us[i]? = some (us.getD i 0) ∧ ls[i]? = some (ls.getD i 0) ∧ us[k]? = some (us.getD k 0) ∧ wrapR .i64 (ls.getD i 0 * ovr X i k) = .i .i64 (ls.getD i 0 * ovr X i k) ∧ wrapR .i64 (us.getD i 0 + ls.getD i 0 * ovr X i k) = .i .i64 (us.getD i 0 + ls.getD i 0 * ovr X i k) := by
  have g1 := getD_get (l := us) (i := i) (by rw [h.lu]; exact hi)
  have g2 := getD_get (l := ls) (i := i) (by rw [h.ll]; exact hi)
  have g3 := getD_get (l := us) (i := k) (by rw [h.lu]; exact hk)
  have r1 := h.ru _ (List.mem_of_getElem? g1)
  have r2 := h.rl _ (List.mem_of_getElem? g2)
  have ho := ovr_range hm hi hk
  have p1 : ls.getD i 0 * (-1199) ≤ ls.getD i 0 * ovr X i k := Int.mul_le_mul_of_nonneg_left ho.1 (by omega)
  have p2 : ls.getD i 0 * ovr X i k ≤ ls.getD i 0 * 1199 := Int.mul_le_mul_of_nonneg_left ho.2 (by omega)
  exact ⟨g1, g2, g3, wrapR_i64 (by omega), wrapR_i64 (by omega)⟩

theorem l75_1_all {pg : Pg} (hF : Free pg) {X : List Obs} {g : Nat} (hm : Market X g) {us ls : List Int} (har : arR X us ls) {U L : TV} (hU : SV U us) (hL : SV L ls) {i : Nat} (hi : i < X.length) {H : Heap} : ∀ (d k : Nat), k + d = X.length →
    (den pg l75_1 [(0, mV X), (1, U), (2, L), (7, .i .i64 (i : Int)), (48, .i .i64 (X.length : Int)), (49, .i .i64 (i : Int)), (55, .i .i64 (X.length : Int)), (56, .i .i64 (k : Int))] H = some ⟨.ret, [(6, .b false)], H⟩ ∧ ∃ j, j < X.length ∧ ¬ us.getD j 0 ≤ us.getD i 0 + ls.getD i 0 * ovr X i j) ∨
    (∃ e, den pg l75_1 [(0, mV X), (1, U), (2, L), (7, .i .i64 (i : Int)), (48, .i .i64 (X.length : Int)), (49, .i .i64 (i : Int)), (55, .i .i64 (X.length : Int)), (56, .i .i64 (k : Int))] H = some ⟨.exit 2, e, H⟩ ∧
      keepE [0, 1, 2, 48, 49] e = [(0, mV X), (1, U), (2, L), (48, .i .i64 (X.length : Int)), (49, .i .i64 (i : Int))] ∧ ∀ j, k ≤ j → j < X.length → us.getD j 0 ≤ us.getD i 0 + ls.getD i 0 * ovr X i j)
  | 0, k, h => by
    have e1 : ¬ ((k : Int) < (X.length : Int)) := by omega
    refine .inr ⟨[(0, mV X), (1, U), (2, L), (7, .i .i64 (i : Int)), (48, .i .i64 (X.length : Int)), (49, .i .i64 (i : Int)), (55, .i .i64 (X.length : Int)), (56, .i .i64 (k : Int)), (57, .b false)], ?_, rfl, fun j h1 h2 => by omega⟩
    rw [l75_1, den_loop]
    simp [b75_0, go_nil, go_last, go_past, go_pastR, go_blkN, go_blkR, go_blkE, go_skip, go_exit, go_ret, go_scope, go_seq, go_reg, go_block, go_cond, cnd_b, go_opsN, go_ops, go_opsG, grd_b, grd_u, stp_some, fin_some, up_some, cont_some, k_call, k_mv, k_pick, k_bin, k_eqB, k_eqA, k_not, k_neg, k_conv, k_alloc, k_boxA, k_boxI, k_boxB, k_boxN, k_boxBs, k_ldR, k_ldA, k_ldI, k_ldB, k_stA, k_stI, k_stB, ldC_some, stC_some, k_mkfn, k_slc, k_slcA, k_ixA, k_ixBs, k_ixSl, k_fadr, k_fld, k_ext, k_len, k_app, k_mn, k_mx, k_nilck, k_build, k_bsl1, k_bsl2, b_add, b_sub, b_mul, b_eql, b_neq, b_lss, b_leq, b_gtr, b_geq, Dn.setLast, Dn.getLast, evalO, mapO, Dn.get, putE, keepE, TV.one, TV.isAgg, Dn.part, e1]
  | d + 1, k, h => by
    have hn5 := hm.n5
    have hk : k < X.length := by omega
    have e1 : ((k : Int) < (X.length : Int)) := by omega
    have e2 : wrapR .i64 ((k : Int) + 1) = .i .i64 ((k : Int) + 1) := wrapR_i64 (by omega)
    obtain ⟨g1, g2, g3, f1, f2⟩ := ar_fit hm har hi hk
    obtain ⟨p1, hp1, hv1⟩ := ixI (pg := pg) (R := den pg) (hU.view H) g1
    obtain ⟨p2, hp2, hv2⟩ := ixI (pg := pg) (R := den pg) (hL.view H) g2
    obtain ⟨p3, hp3, hv3⟩ := ixI (pg := pg) (R := den pg) (hU.view H) g3
    have c90 := call90 hF hm hi hk H
    by_cases hok : us.getD k 0 ≤ us.getD i 0 + ls.getD i 0 * ovr X i k
    · have hok' : ¬ (us.getD i 0 + ls.getD i 0 * ovr X i k < us.getD k 0) := by omega
      have hstep : den pg l75_1 [(0, mV X), (1, U), (2, L), (7, .i .i64 (i : Int)), (48, .i .i64 (X.length : Int)), (49, .i .i64 (i : Int)), (55, .i .i64 (X.length : Int)), (56, .i .i64 (k : Int))] H = den pg l75_1 [(0, mV X), (1, U), (2, L), (7, .i .i64 (i : Int)), (48, .i .i64 (X.length : Int)), (49, .i .i64 (i : Int)), (55, .i .i64 (X.length : Int)), (56, .i .i64 ((k + 1 : Nat) : Int))] H := by
        generalize us.getD i 0 = ui at *
        generalize ls.getD i 0 = li at *
        generalize us.getD k 0 = uk at *
        generalize ovr X i k = oo at *
        rw [l75_1, den_loop]
        simp [l75_1, b75_0, go_nil, go_last, go_past, go_pastR, go_blkN, go_blkR, go_blkE, go_skip, go_exit, go_ret, go_scope, go_seq, go_reg, go_block, go_cond, cnd_b, go_opsN, go_ops, go_opsG, grd_b, grd_u, stp_some, fin_some, up_some, cont_some, k_call, k_mv, k_pick, k_bin, k_eqB, k_eqA, k_not, k_neg, k_conv, k_alloc, k_boxA, k_boxI, k_boxB, k_boxN, k_boxBs, k_ldR, k_ldA, k_ldI, k_ldB, k_stA, k_stI, k_stB, ldC_some, stC_some, k_mkfn, k_slc, k_slcA, k_ixA, k_ixBs, k_ixSl, k_fadr, k_fld, k_ext, k_len, k_app, k_mn, k_mx, k_nilck, k_build, k_bsl1, k_bsl2, b_add, b_sub, b_mul, b_eql, b_neq, b_lss, b_leq, b_gtr, b_geq, Dn.setLast, Dn.getLast, evalO, mapO, Dn.get, putE, keepE, TV.one, TV.isAgg, Dn.part, e1, e2, hp1, hv1, hp2, hv2, hp3, hv3, c90, f1, f2, hok']
      rw [hstep]
      rcases l75_1_all hF hm har hU hL hi (H := H) d (k + 1) (by omega) with h1 | ⟨e, h1, h2, h3⟩
      · exact .inl h1
      · refine .inr ⟨e, h1, h2, fun j hj1 hj2 => ?_⟩
        by_cases he : j = k
        · subst he; exact hok
        · exact h3 j (by omega) hj2
    · have hok' : us.getD i 0 + ls.getD i 0 * ovr X i k < us.getD k 0 := by omega
      refine .inl ⟨?_, k, hk, hok⟩
      generalize us.getD i 0 = ui at *
      generalize ls.getD i 0 = li at *
      generalize us.getD k 0 = uk at *
      generalize ovr X i k = oo at *
      rw [l75_1, den_loop]
      simp [b75_0, go_nil, go_last, go_past, go_pastR, go_blkN, go_blkR, go_blkE, go_skip, go_exit, go_ret, go_scope, go_seq, go_reg, go_block, go_cond, cnd_b, go_opsN, go_ops, go_opsG, grd_b, grd_u, stp_some, fin_some, up_some, cont_some, k_call, k_mv, k_pick, k_bin, k_eqB, k_eqA, k_not, k_neg, k_conv, k_alloc, k_boxA, k_boxI, k_boxB, k_boxN, k_boxBs, k_ldR, k_ldA, k_ldI, k_ldB, k_stA, k_stI, k_stB, ldC_some, stC_some, k_mkfn, k_slc, k_slcA, k_ixA, k_ixBs, k_ixSl, k_fadr, k_fld, k_ext, k_len, k_app, k_mn, k_mx, k_nilck, k_build, k_bsl1, k_bsl2, b_add, b_sub, b_mul, b_eql, b_neq, b_lss, b_leq, b_gtr, b_geq, Dn.setLast, Dn.getLast, evalO, mapO, Dn.get, putE, keepE, TV.one, TV.isAgg, Dn.part, e1, hp1, hv1, hp2, hv2, hp3, hv3, c90, f1, f2, hok']

theorem l75_3_all {pg : Pg} (hF : Free pg) {X : List Obs} {g : Nat} (hm : Market X g) {us ls : List Int} (har : arR X us ls) {U L : TV} (hU : SV U us) (hL : SV L ls) {H : Heap} : ∀ (d i : Nat), i + d = X.length →
    (den pg l75_3 [(0, mV X), (1, U), (2, L), (48, .i .i64 (X.length : Int)), (49, .i .i64 (i : Int))] H = some ⟨.ret, [(6, .b false)], H⟩ ∧ ∃ a j, a < X.length ∧ j < X.length ∧ ¬ us.getD j 0 ≤ us.getD a 0 + ls.getD a 0 * ovr X a j) ∨
    (∃ e, den pg l75_3 [(0, mV X), (1, U), (2, L), (48, .i .i64 (X.length : Int)), (49, .i .i64 (i : Int))] H = some ⟨.exit 0, e, H⟩ ∧ ∀ a j, i ≤ a → a < X.length → j < X.length → us.getD j 0 ≤ us.getD a 0 + ls.getD a 0 * ovr X a j)
  | 0, i, h => by
    have e1 : ¬ ((i : Int) < (X.length : Int)) := by omega
    refine .inr ⟨[(0, mV X), (1, U), (2, L), (48, .i .i64 (X.length : Int)), (49, .i .i64 (i : Int)), (50, .b false)], ?_, fun a j h1 h2 => by omega⟩
    rw [l75_3, den_loop]
    simp [b75_2, go_nil, go_last, go_past, go_pastR, go_blkN, go_blkR, go_blkE, go_skip, go_exit, go_ret, go_scope, go_seq, go_reg, go_block, go_cond, cnd_b, go_opsN, go_ops, go_opsG, grd_b, grd_u, stp_some, fin_some, up_some, cont_some, k_call, k_mv, k_pick, k_bin, k_eqB, k_eqA, k_not, k_neg, k_conv, k_alloc, k_boxA, k_boxI, k_boxB, k_boxN, k_boxBs, k_ldR, k_ldA, k_ldI, k_ldB, k_stA, k_stI, k_stB, ldC_some, stC_some, k_mkfn, k_slc, k_slcA, k_ixA, k_ixBs, k_ixSl, k_fadr, k_fld, k_ext, k_len, k_app, k_mn, k_mx, k_nilck, k_build, k_bsl1, k_bsl2, b_add, b_sub, b_mul, b_eql, b_neq, b_lss, b_leq, b_gtr, b_geq, Dn.setLast, Dn.getLast, evalO, mapO, Dn.get, putE, keepE, TV.one, TV.isAgg, Dn.part, e1]
  | d + 1, i, h => by
    have hn5 := hm.n5
    have hi : i < X.length := by omega
    have e1 : ((i : Int) < (X.length : Int)) := by omega
    have e2 : wrapR .i64 ((i : Int) + 1) = .i .i64 ((i : Int) + 1) := wrapR_i64 (by omega)
    have fN := fadr_mN (pg := pg) (R := den pg) true (X.length : Int) (costF X) H
    rcases l75_1_all hF hm har hU hL hi (H := H) X.length 0 (by omega) with ⟨h1, j, h2, h3⟩ | ⟨e, h1, h2, h3⟩
    · refine .inl ⟨?_, i, j, hi, h2, h3⟩
      simp only [mV, mX, Int.natCast_zero] at h1 fN ⊢
      rw [l75_3, den_loop]
      simp [b75_2, go_nil, go_last, go_past, go_pastR, go_blkN, go_blkR, go_blkE, go_skip, go_exit, go_ret, go_scope, go_seq, go_reg, go_block, go_cond, cnd_b, go_opsN, go_ops, go_opsG, grd_b, grd_u, stp_some, fin_some, up_some, cont_some, k_call, k_mv, k_pick, k_bin, k_eqB, k_eqA, k_not, k_neg, k_conv, k_alloc, k_boxA, k_boxI, k_boxB, k_boxN, k_boxBs, k_ldR, k_ldA, k_ldI, k_ldB, k_stA, k_stI, k_stB, ldC_some, stC_some, k_mkfn, k_slc, k_slcA, k_ixA, k_ixBs, k_ixSl, k_fadr, k_fld, k_ext, k_len, k_app, k_mn, k_mx, k_nilck, k_build, k_bsl1, k_bsl2, b_add, b_sub, b_mul, b_eql, b_neq, b_lss, b_leq, b_gtr, b_geq, Dn.setLast, Dn.getLast, evalO, mapO, Dn.get, putE, keepE, TV.one, TV.isAgg, Dn.part, e1, k_nilckB, fN, go_denK (c := l75_1) rfl, h1]
    · have g0 := keep_get h2 (s := 0) (by simp) rfl
      have g1 := keep_get h2 (s := 1) (by simp) rfl
      have g2 := keep_get h2 (s := 2) (by simp) rfl
      have g48 := keep_get h2 (s := 48) (by simp) rfl
      have g49 := keep_get h2 (s := 49) (by simp) rfl
      have hstep : den pg l75_3 [(0, mV X), (1, U), (2, L), (48, .i .i64 (X.length : Int)), (49, .i .i64 (i : Int))] H = den pg l75_3 [(0, mV X), (1, U), (2, L), (48, .i .i64 (X.length : Int)), (49, .i .i64 ((i + 1 : Nat) : Int))] H := by
        simp only [mV, mX, Int.natCast_zero] at h1 fN g0 ⊢
        rw [l75_3, den_loop]
        simp [l75_3, b75_2, go_nil, go_last, go_past, go_pastR, go_blkN, go_blkR, go_blkE, go_skip, go_exit, go_ret, go_scope, go_seq, go_reg, go_block, go_cond, cnd_b, go_opsN, go_ops, go_opsG, grd_b, grd_u, stp_some, fin_some, up_some, cont_some, k_call, k_mv, k_pick, k_bin, k_eqB, k_eqA, k_not, k_neg, k_conv, k_alloc, k_boxA, k_boxI, k_boxB, k_boxN, k_boxBs, k_ldR, k_ldA, k_ldI, k_ldB, k_stA, k_stI, k_stB, ldC_some, stC_some, k_mkfn, k_slc, k_slcA, k_ixA, k_ixBs, k_ixSl, k_fadr, k_fld, k_ext, k_len, k_app, k_mn, k_mx, k_nilck, k_build, k_bsl1, k_bsl2, b_add, b_sub, b_mul, b_eql, b_neq, b_lss, b_leq, b_gtr, b_geq, Dn.setLast, Dn.getLast, evalO, mapO, Dn.get, putE, keepE, TV.one, TV.isAgg, Dn.part, e1, e2, k_nilckB, fN, go_denK (c := l75_1) rfl, h1, g0, g1, g2, g48, g49]
      rw [hstep]
      rcases l75_3_all hF hm har hU hL (H := H) d (i + 1) (by omega) with k1 | ⟨e', k1, k2⟩
      · exact .inl k1
      · refine .inr ⟨e', k1, fun a j ha1 ha2 hj => ?_⟩
        by_cases he : a = i
        · subst he; exact h3 j (Nat.zero_le _) hj
        · exact k2 a j (by omega) ha2 hj

/-- the program's answer -/
theorem call75 {pg : Pg} (hF : Free pg) {X : List Obs} {g : Nat} (hm : Market X g) {us ls : List Int} (hul : us.length ≤ 1000) (hll : ls.length ≤ 1000) :
    ∃ r : Bool, (∀ H M U L, H[M]? = some (.cells (mX X) true) → SV U us → SV L ls → callRun pg (den pg) (.pu []) [.fn 75 [] [], .ref M 0, U, L] H = some (.b r, H)) ∧ (r = true ↔ arN X us ls) := by
  have hn1 := hm.n1
  have hd : pg.F 75 = some d75 := by rw [hF.F]; rfl
  have fN := fadr_mN (pg := pg) (R := den pg) true (X.length : Int) (costF X) []
  have fin : ∀ r : Bool, (∀ U L, SV U us → SV L ls → go pg (den pg) [.c d75.body] .normal (zipE [mV X, U, L] 0) [] = some ⟨.ret, [(6, .b r)], []⟩) → ∀ H M U L, H[M]? = some (.cells (mX X) true) → SV U us → SV L ls → callRun pg (den pg) (.pu []) [.fn 75 [] [], .ref M 0, U, L] H = some (.b r, H) := by
    intro r hr H M U L hM hU hL
    obtain ⟨U', s1, s2⟩ := hU.snap H 7
    obtain ⟨L', t1, t2⟩ := hL.snap H 7
    have h4 := mR_snap hM 7
    exact PFn.call (xs := [mV X, U', L']) (.of1 (x := .ret) (e := [(6, .b r)]) (H' := []) (hF.S _ _ (by decide)) hd rfl (hr U' L' s2 t2) (.inl rfl) rfl (by simp [sn_i, sn_b, sn_nil, sn8_i, sn8_b, sn8_nil, sn7_i, sn7_b, sn_sl, sn8_sl, slB_some, sn_tup, sn_agg, sn8_agg, mapO, elems])) (args := [.ref M 0, U, L]) (by simp [snapArgs, h4, s1, t1])
  have w1 : wrapR .i64 (-10000000000000000) = .i .i64 (-10000000000000000) := wrapR_i64 (by omega)
  by_cases lu : us.length = X.length
  · by_cases ll : ls.length = X.length
    · obtain ⟨x, us', rfl⟩ : ∃ x us', us = x :: us' := by cases us with
        | nil => simp at lu; omega
        | cons x us' => exact ⟨x, us', rfl⟩
      obtain ⟨y, ls', rfl⟩ : ∃ y ls', ls = y :: ls' := by cases ls with
        | nil => simp at ll; omega
        | cons y ls' => exact ⟨y, ls', rfl⟩
      have q1 := minL_lt (B := -10000000000000000) us' x
      have q2 := maxL_gt (B := 10000000000000000) us' x
      have q3 := minL_lt (B := 1) ls' y
      have q4 := maxL_gt (B := 10000000000000) ls' y
      have m1 : (x < -10000000000000000 ∨ ∃ z ∈ us', z < -10000000000000000) ↔ ∃ z ∈ x :: us', z < -10000000000000000 := by simp
      have m2 : ((10000000000000000 : Int) < x ∨ ∃ z ∈ us', (10000000000000000 : Int) < z) ↔ ∃ z ∈ x :: us', (10000000000000000 : Int) < z := by simp
      have m3 : (y < 1 ∨ ∃ z ∈ ls', z < 1) ↔ ∃ z ∈ y :: ls', z < 1 := by simp
      have m4 : ((10000000000000 : Int) < y ∨ ∃ z ∈ ls', (10000000000000 : Int) < z) ↔ ∃ z ∈ y :: ls', (10000000000000 : Int) < z := by simp
      rw [m1] at q1
      rw [m2] at q2
      rw [m3] at q3
      rw [m4] at q4
      have c1 : ∀ U, SV U (x :: us') → ∀ H, callRun pg (den pg) (.pu []) [.fn 78 [] [], U] H = some (.i .i64 (minL us' x), H) := fun U hU H => call78 hF hU (by simp at hul; omega) H
      have c2 : ∀ U, SV U (x :: us') → ∀ H, callRun pg (den pg) (.pu []) [.fn 89 [] [], U] H = some (.i .i64 (maxL us' x), H) := fun U hU H => call89 hF hU (by simp at hul; omega) H
      have c3 : ∀ U, SV U (y :: ls') → ∀ H, callRun pg (den pg) (.pu []) [.fn 78 [] [], U] H = some (.i .i64 (minL ls' y), H) := fun U hU H => call78 hF hU (by simp at hll; omega) H
      have c4 : ∀ U, SV U (y :: ls') → ∀ H, callRun pg (den pg) (.pu []) [.fn 89 [] [], U] H = some (.i .i64 (maxL ls' y), H) := fun U hU H => call89 hF hU (by simp at hll; omega) H
      have lU : ∀ U, SV U (x :: us') → lenK 0 U [] = some X.length := fun U hU => by rw [← lu]; exact (hU.view []).lenK []
      have lL : ∀ U, SV U (y :: ls') → lenK 0 U [] = some X.length := fun U hU => by rw [← ll]; exact (hU.view []).lenK []
      by_cases r1 : minL us' x < -10000000000000000
      · refine ⟨false, fin false fun U L hU hL => ?_, ⟨fun h => (by cases h), fun h => ?_⟩⟩
        · have c1' := c1 U hU []
          have lu' := lU U hU
          have ll' := lL L hL
          simp only [mV, mX] at fN ⊢
          simp [d75, c75, zipE, go_nil, go_last, go_past, go_pastR, go_blkN, go_blkR, go_blkE, go_skip, go_exit, go_ret, go_scope, go_seq, go_reg, go_block, go_cond, cnd_b, go_opsN, go_ops, go_opsG, grd_b, grd_u, stp_some, fin_some, up_some, cont_some, k_call, k_mv, k_pick, k_bin, k_eqB, k_eqA, k_not, k_neg, k_conv, k_alloc, k_boxA, k_boxI, k_boxB, k_boxN, k_boxBs, k_ldR, k_ldA, k_ldI, k_ldB, k_stA, k_stI, k_stB, ldC_some, stC_some, k_mkfn, k_slc, k_slcA, k_ixA, k_ixBs, k_ixSl, k_fadr, k_fld, k_ext, k_len, k_app, k_mn, k_mx, k_nilck, k_build, k_bsl1, k_bsl2, b_add, b_sub, b_mul, b_eql, b_neq, b_lss, b_leq, b_gtr, b_geq, Dn.setLast, Dn.getLast, evalO, mapO, Dn.get, putE, keepE, TV.one, TV.isAgg, Dn.part, lu', ll', k_nilckB, fN, c1', r1]
        · obtain ⟨z, hz, hz2⟩ := q1.1 r1
          have := h.ru z hz; omega
      · by_cases r2 : (10000000000000000 : Int) < maxL us' x
        · refine ⟨false, fin false fun U L hU hL => ?_, ⟨fun h => (by cases h), fun h => ?_⟩⟩
          · have c1' := c1 U hU []
            have c2' := c2 U hU []
            have lu' := lU U hU
            have ll' := lL L hL
            simp only [mV, mX] at fN ⊢
            simp [d75, c75, zipE, go_nil, go_last, go_past, go_pastR, go_blkN, go_blkR, go_blkE, go_skip, go_exit, go_ret, go_scope, go_seq, go_reg, go_block, go_cond, cnd_b, go_opsN, go_ops, go_opsG, grd_b, grd_u, stp_some, fin_some, up_some, cont_some, k_call, k_mv, k_pick, k_bin, k_eqB, k_eqA, k_not, k_neg, k_conv, k_alloc, k_boxA, k_boxI, k_boxB, k_boxN, k_boxBs, k_ldR, k_ldA, k_ldI, k_ldB, k_stA, k_stI, k_stB, ldC_some, stC_some, k_mkfn, k_slc, k_slcA, k_ixA, k_ixBs, k_ixSl, k_fadr, k_fld, k_ext, k_len, k_app, k_mn, k_mx, k_nilck, k_build, k_bsl1, k_bsl2, b_add, b_sub, b_mul, b_eql, b_neq, b_lss, b_leq, b_gtr, b_geq, Dn.setLast, Dn.getLast, evalO, mapO, Dn.get, putE, keepE, TV.one, TV.isAgg, Dn.part, lu', ll', k_nilckB, fN, c1', r1, c2', r2]
          · obtain ⟨z, hz, hz2⟩ := q2.1 r2
            have := h.ru z hz; omega
        · by_cases r3 : minL ls' y < 1
          · refine ⟨false, fin false fun U L hU hL => ?_, ⟨fun h => (by cases h), fun h => ?_⟩⟩
            · have c1' := c1 U hU []
              have c2' := c2 U hU []
              have c3' := c3 L hL []
              have lu' := lU U hU
              have ll' := lL L hL
              simp only [mV, mX] at fN ⊢
              simp [d75, c75, zipE, go_nil, go_last, go_past, go_pastR, go_blkN, go_blkR, go_blkE, go_skip, go_exit, go_ret, go_scope, go_seq, go_reg, go_block, go_cond, cnd_b, go_opsN, go_ops, go_opsG, grd_b, grd_u, stp_some, fin_some, up_some, cont_some, k_call, k_mv, k_pick, k_bin, k_eqB, k_eqA, k_not, k_neg, k_conv, k_alloc, k_boxA, k_boxI, k_boxB, k_boxN, k_boxBs, k_ldR, k_ldA, k_ldI, k_ldB, k_stA, k_stI, k_stB, ldC_some, stC_some, k_mkfn, k_slc, k_slcA, k_ixA, k_ixBs, k_ixSl, k_fadr, k_fld, k_ext, k_len, k_app, k_mn, k_mx, k_nilck, k_build, k_bsl1, k_bsl2, b_add, b_sub, b_mul, b_eql, b_neq, b_lss, b_leq, b_gtr, b_geq, Dn.setLast, Dn.getLast, evalO, mapO, Dn.get, putE, keepE, TV.one, TV.isAgg, Dn.part, lu', ll', k_nilckB, fN, c1', r1, c2', r2, c3', r3]
            · obtain ⟨z, hz, hz2⟩ := q3.1 r3
              have := h.rl z hz; omega
          · by_cases r4 : (10000000000000 : Int) < maxL ls' y
            · refine ⟨false, fin false fun U L hU hL => ?_, ⟨fun h => (by cases h), fun h => ?_⟩⟩
              · have c1' := c1 U hU []
                have c2' := c2 U hU []
                have c3' := c3 L hL []
                have c4' := c4 L hL []
                have lu' := lU U hU
                have ll' := lL L hL
                simp only [mV, mX] at fN ⊢
                simp [d75, c75, zipE, go_nil, go_last, go_past, go_pastR, go_blkN, go_blkR, go_blkE, go_skip, go_exit, go_ret, go_scope, go_seq, go_reg, go_block, go_cond, cnd_b, go_opsN, go_ops, go_opsG, grd_b, grd_u, stp_some, fin_some, up_some, cont_some, k_call, k_mv, k_pick, k_bin, k_eqB, k_eqA, k_not, k_neg, k_conv, k_alloc, k_boxA, k_boxI, k_boxB, k_boxN, k_boxBs, k_ldR, k_ldA, k_ldI, k_ldB, k_stA, k_stI, k_stB, ldC_some, stC_some, k_mkfn, k_slc, k_slcA, k_ixA, k_ixBs, k_ixSl, k_fadr, k_fld, k_ext, k_len, k_app, k_mn, k_mx, k_nilck, k_build, k_bsl1, k_bsl2, b_add, b_sub, b_mul, b_eql, b_neq, b_lss, b_leq, b_gtr, b_geq, Dn.setLast, Dn.getLast, evalO, mapO, Dn.get, putE, keepE, TV.one, TV.isAgg, Dn.part, lu', ll', k_nilckB, fN, c1', r1, c2', r2, c3', r3, c4', r4]
              · obtain ⟨z, hz, hz2⟩ := q4.1 r4
                have := h.rl z hz; omega
            · have har : arR X (x :: us') (y :: ls') := ⟨lu, ll, fun z hz => ⟨by
                apply Int.not_lt.1; intro hh; exact r1 (q1.2 ⟨z, hz, hh⟩), by
                apply Int.not_lt.1; intro hh; exact r2 (q2.2 ⟨z, hz, hh⟩)⟩, fun z hz => ⟨by
                apply Int.not_lt.1; intro hh; exact r3 (q3.2 ⟨z, hz, hh⟩), by
                apply Int.not_lt.1; intro hh; exact r4 (q4.2 ⟨z, hz, hh⟩)⟩⟩
              by_cases hok : ∀ i k, i < X.length → k < X.length → (x :: us').getD k 0 ≤ (x :: us').getD i 0 + (y :: ls').getD i 0 * ovr X i k
              · refine ⟨true, fin true fun U L hU hL => ?_, ⟨fun _ => ⟨lu, ll, har.ru, har.rl, hok⟩, fun _ => rfl⟩⟩
                have c1' := c1 U hU []
                have c2' := c2 U hU []
                have c3' := c3 L hL []
                have c4' := c4 L hL []
                have lu' := lU U hU
                have ll' := lL L hL
                rcases l75_3_all hF hm har hU hL (H := []) X.length 0 (by omega) with ⟨_, a, j, ha, hj, hbad⟩ | ⟨e, k1, _⟩
                · exact absurd (hok a j ha hj) hbad
                · simp only [mV, mX, Int.natCast_zero] at fN k1 ⊢
                  simp [d75, c75, zipE, go_nil, go_last, go_past, go_pastR, go_blkN, go_blkR, go_blkE, go_skip, go_exit, go_ret, go_scope, go_seq, go_reg, go_block, go_cond, cnd_b, go_opsN, go_ops, go_opsG, grd_b, grd_u, stp_some, fin_some, up_some, cont_some, k_call, k_mv, k_pick, k_bin, k_eqB, k_eqA, k_not, k_neg, k_conv, k_alloc, k_boxA, k_boxI, k_boxB, k_boxN, k_boxBs, k_ldR, k_ldA, k_ldI, k_ldB, k_stA, k_stI, k_stB, ldC_some, stC_some, k_mkfn, k_slc, k_slcA, k_ixA, k_ixBs, k_ixSl, k_fadr, k_fld, k_ext, k_len, k_app, k_mn, k_mx, k_nilck, k_build, k_bsl1, k_bsl2, b_add, b_sub, b_mul, b_eql, b_neq, b_lss, b_leq, b_gtr, b_geq, Dn.setLast, Dn.getLast, evalO, mapO, Dn.get, putE, keepE, TV.one, TV.isAgg, Dn.part, lu', ll', k_nilckB, fN, c1', r1, c2', r2, c3', r3, c4', r4, go_denK (c := l75_3) rfl, k1]
              · refine ⟨false, fin false fun U L hU hL => ?_, ⟨fun h => (by cases h), fun h => absurd h.ok hok⟩⟩
                have c1' := c1 U hU []
                have c2' := c2 U hU []
                have c3' := c3 L hL []
                have c4' := c4 L hL []
                have lu' := lU U hU
                have ll' := lL L hL
                rcases l75_3_all hF hm har hU hL (H := []) X.length 0 (by omega) with ⟨k1, _⟩ | ⟨e, _, k2⟩
                · simp only [mV, mX, Int.natCast_zero] at fN k1 ⊢
                  simp [d75, c75, zipE, go_nil, go_last, go_past, go_pastR, go_blkN, go_blkR, go_blkE, go_skip, go_exit, go_ret, go_scope, go_seq, go_reg, go_block, go_cond, cnd_b, go_opsN, go_ops, go_opsG, grd_b, grd_u, stp_some, fin_some, up_some, cont_some, k_call, k_mv, k_pick, k_bin, k_eqB, k_eqA, k_not, k_neg, k_conv, k_alloc, k_boxA, k_boxI, k_boxB, k_boxN, k_boxBs, k_ldR, k_ldA, k_ldI, k_ldB, k_stA, k_stI, k_stB, ldC_some, stC_some, k_mkfn, k_slc, k_slcA, k_ixA, k_ixBs, k_ixSl, k_fadr, k_fld, k_ext, k_len, k_app, k_mn, k_mx, k_nilck, k_build, k_bsl1, k_bsl2, b_add, b_sub, b_mul, b_eql, b_neq, b_lss, b_leq, b_gtr, b_geq, Dn.setLast, Dn.getLast, evalO, mapO, Dn.get, putE, keepE, TV.one, TV.isAgg, Dn.part, lu', ll', k_nilckB, fN, c1', r1, c2', r2, c3', r3, c4', r4, go_denK (c := l75_3) rfl, k1]
                · exact absurd (fun i k hi hk => k2 i k (Nat.zero_le _) hi hk) hok
    · refine ⟨false, fin false fun U L hU hL => ?_, ⟨fun h => (by cases h), fun h => absurd h.ll ll⟩⟩
      have lu' := (hU.view []).lenK []
      have ll' := (hL.view []).lenK []
      rw [lu] at lu'
      have hne : ((ls.length : Int) != (X.length : Int)) = true := by simp; omega
      simp only [mV, mX] at fN ⊢
      simp [d75, c75, zipE, go_nil, go_last, go_past, go_pastR, go_blkN, go_blkR, go_blkE, go_skip, go_exit, go_ret, go_scope, go_seq, go_reg, go_block, go_cond, cnd_b, go_opsN, go_ops, go_opsG, grd_b, grd_u, stp_some, fin_some, up_some, cont_some, k_call, k_mv, k_pick, k_bin, k_eqB, k_eqA, k_not, k_neg, k_conv, k_alloc, k_boxA, k_boxI, k_boxB, k_boxN, k_boxBs, k_ldR, k_ldA, k_ldI, k_ldB, k_stA, k_stI, k_stB, ldC_some, stC_some, k_mkfn, k_slc, k_slcA, k_ixA, k_ixBs, k_ixSl, k_fadr, k_fld, k_ext, k_len, k_app, k_mn, k_mx, k_nilck, k_build, k_bsl1, k_bsl2, b_add, b_sub, b_mul, b_eql, b_neq, b_lss, b_leq, b_gtr, b_geq, Dn.setLast, Dn.getLast, evalO, mapO, Dn.get, putE, keepE, TV.one, TV.isAgg, Dn.part, lu', ll', k_nilckB, fN, hne]
  · refine ⟨false, fin false fun U L hU hL => ?_, ⟨fun h => (by cases h), fun h => absurd h.lu lu⟩⟩
    have lu' := (hU.view []).lenK []
    have hne : ((us.length : Int) != (X.length : Int)) = true := by simp; omega
    simp only [mV, mX] at fN ⊢
    simp [d75, c75, zipE, go_nil, go_last, go_past, go_pastR, go_blkN, go_blkR, go_blkE, go_skip, go_exit, go_ret, go_scope, go_seq, go_reg, go_block, go_cond, cnd_b, go_opsN, go_ops, go_opsG, grd_b, grd_u, stp_some, fin_some, up_some, cont_some, k_call, k_mv, k_pick, k_bin, k_eqB, k_eqA, k_not, k_neg, k_conv, k_alloc, k_boxA, k_boxI, k_boxB, k_boxN, k_boxBs, k_ldR, k_ldA, k_ldI, k_ldB, k_stA, k_stI, k_stB, ldC_some, stC_some, k_mkfn, k_slc, k_slcA, k_ixA, k_ixBs, k_ixSl, k_fadr, k_fld, k_ext, k_len, k_app, k_mn, k_mx, k_nilck, k_build, k_bsl1, k_bsl2, b_add, b_sub, b_mul, b_eql, b_neq, b_lss, b_leq, b_gtr, b_geq, Dn.setLast, Dn.getLast, evalO, mapO, Dn.get, putE, keepE, TV.one, TV.isAgg, Dn.part, lu', k_nilckB, fN, hne]

theorem call43 {pg : Pg} (hF : Free pg) {X : List Obs} {g : Nat} (hm : Market X g) {us ls : List Int} (hul : us.length ≤ 1000) (hll : ls.length ≤ 1000) :
    ∃ r : Bool, (∀ H U L, SV U us → SV L ls → callRun pg (den pg) (.pu []) [.fn 43 [] [], (elS false).lt false X, U, L] H = some (.tup [.b r, .i .i64 0], H)) ∧ (r = true ↔ arN X us ls) := by
  obtain ⟨r, c75, hr⟩ := call75 hF hm hul hll
  obtain ⟨H1, h1, h2, h3, h4⟩ := body53 hF hm (P := .nilsl) (P' := .nilsl) (ps := []) (elS_RV true true X) (.inl ⟨rfl, rfl⟩) (by simp) (by simp) (H := []) (sn_nil _ _)
  simp only [List.length_nil] at h1 h2
  refine ⟨r, fun H U L hU hL => ?_, hr⟩
  obtain ⟨U', s1, s2⟩ := hU.snap H 7
  obtain ⟨L', t1, t2⟩ := hL.snap H 7
  have c := c75 H1 0 U' L' h2 s2 t2
  refine PFn.call (.of2 (xs := [(elS true).lt true X, U', L']) (x := .ret) (e := [(6, .b r), (7, .i .i64 0)]) (H' := H1) (vs := [.b r, .i .i64 0]) (hF.S _ _ (by decide)) (d := d43) (by rw [hF.F]; rfl) rfl ?_ (.inl rfl) rfl (by simp) (by simp [sn_i, sn_b, sn_nil, sn8_i, sn8_b, sn8_nil, sn7_i, sn7_b, sn_sl, sn8_sl, slB_some, sn_tup, sn_agg, sn8_agg, mapO, elems])) (args := [(elS false).lt false X, U, L]) (by simp [snapArgs, snZ, s1, t1])
  simp [d43, c43, zipE, go_nil, go_last, go_past, go_pastR, go_blkN, go_blkR, go_blkE, go_skip, go_exit, go_ret, go_scope, go_seq, go_reg, go_block, go_cond, cnd_b, go_opsN, go_ops, go_opsG, grd_b, grd_u, stp_some, fin_some, up_some, cont_some, k_call, k_mv, k_pick, k_bin, k_eqB, k_eqA, k_not, k_neg, k_conv, k_alloc, k_boxA, k_boxI, k_boxB, k_boxN, k_boxBs, k_ldR, k_ldA, k_ldI, k_ldB, k_stA, k_stI, k_stB, ldC_some, stC_some, k_mkfn, k_slc, k_slcA, k_ixA, k_ixBs, k_ixSl, k_fadr, k_fld, k_ext, k_len, k_app, k_mn, k_mx, k_nilck, k_build, k_bsl1, k_bsl2, b_add, b_sub, b_mul, b_eql, b_neq, b_lss, b_leq, b_gtr, b_geq, Dn.setLast, Dn.getLast, evalO, mapO, Dn.get, putE, keepE, TV.one, TV.isAgg, Dn.part, sh_fn, h1, c]

end Go.Proofs.Tryd.Dn

/-
  Whether integers are numbers of a taste: the reference's.
-/

namespace Go.Proofs.Tryd.Dn
open Go.Dn

theorem l44_1_all {pg : Pg} {X : List Obs} {us ls : List Int} (lu : us.length = X.length) (ll : ls.length = X.length) (hn : X.length ≤ 5) {U L : TV} (hU : SV U us) (hL : SV L ls) {H : Heap} : ∀ (d i : Nat), i + d = X.length →
    (den pg l44_1 [(0, (elS true).lt true X), (1, U), (2, L), (7, .i .i64 (i : Int))] H = some ⟨.ret, [(6, .b false)], H⟩ ∧ ∃ j, j < X.length ∧ ¬ ((-10000000000000000 ≤ us.getD j 0 ∧ us.getD j 0 ≤ 10000000000000000) ∧ 1 ≤ ls.getD j 0 ∧ ls.getD j 0 ≤ 10000000000000)) ∨
    (∃ e, den pg l44_1 [(0, (elS true).lt true X), (1, U), (2, L), (7, .i .i64 (i : Int))] H = some ⟨.exit 0, e, H⟩ ∧ keepE [0, 1, 2] e = [(0, (elS true).lt true X), (1, U), (2, L)] ∧
      ∀ j, i ≤ j → j < X.length → (-10000000000000000 ≤ us.getD j 0 ∧ us.getD j 0 ≤ 10000000000000000) ∧ 1 ≤ ls.getD j 0 ∧ ls.getD j 0 ≤ 10000000000000)
  | 0, i, h => by
    have e1 : ¬ ((i : Int) < (X.length : Int)) := by omega
    have hlen := El.lt_len (E := elS true) true X
    refine .inr ⟨[(0, (elS true).lt true X), (1, U), (2, L), (7, .i .i64 (i : Int)), (26, .b false)], ?_, rfl, fun j h1 h2 => by omega⟩
    rw [l44_1, den_loop]
    simp [b44_0, go_nil, go_last, go_past, go_pastR, go_blkN, go_blkR, go_blkE, go_skip, go_exit, go_ret, go_scope, go_seq, go_reg, go_block, go_cond, cnd_b, go_opsN, go_ops, go_opsG, grd_b, grd_u, stp_some, fin_some, up_some, cont_some, k_call, k_mv, k_pick, k_bin, k_eqB, k_eqA, k_not, k_neg, k_conv, k_alloc, k_boxA, k_boxI, k_boxB, k_boxN, k_boxBs, k_ldR, k_ldA, k_ldI, k_ldB, k_stA, k_stI, k_stB, ldC_some, stC_some, k_mkfn, k_slc, k_slcA, k_ixA, k_ixBs, k_ixSl, k_fadr, k_fld, k_ext, k_len, k_app, k_mn, k_mx, k_nilck, k_build, k_bsl1, k_bsl2, b_add, b_sub, b_mul, b_eql, b_neq, b_lss, b_leq, b_gtr, b_geq, Dn.setLast, Dn.getLast, evalO, mapO, Dn.get, putE, keepE, TV.one, TV.isAgg, Dn.part, hlen, e1]
  | d + 1, i, h => by
    have hi : i < X.length := by omega
    have e1 : ((i : Int) < (X.length : Int)) := by omega
    have e2 : wrapR .i64 ((i : Int) + 1) = .i .i64 ((i : Int) + 1) := wrapR_i64 (by omega)
    have hlen := El.lt_len (E := elS true) true X
    have g1 := getD_get (l := us) (i := i) (by omega)
    have g2 := getD_get (l := ls) (i := i) (by omega)
    obtain ⟨p1, hp1, hv1⟩ := ixI (pg := pg) (R := den pg) (hU.view H) g1
    obtain ⟨p2, hp2, hv2⟩ := ixI (pg := pg) (R := den pg) (hL.view H) g2
    obtain ⟨ui, hui⟩ : ∃ ui, ui = us.getD i 0 := ⟨_, rfl⟩
    obtain ⟨li, hli⟩ : ∃ li, li = ls.getD i 0 := ⟨_, rfl⟩
    rw [← hui] at hv1
    rw [← hli] at hv2
    have ih := l44_1_all (pg := pg) lu ll hn hU hL (H := H) d (i + 1) (by omega)
    by_cases r1 : ui < -10000000000000000
    · refine .inl ⟨?_, i, hi, by omega⟩
      rw [l44_1, den_loop]
      simp [b44_0, go_nil, go_last, go_past, go_pastR, go_blkN, go_blkR, go_blkE, go_skip, go_exit, go_ret, go_scope, go_seq, go_reg, go_block, go_cond, cnd_b, go_opsN, go_ops, go_opsG, grd_b, grd_u, stp_some, fin_some, up_some, cont_some, k_call, k_mv, k_pick, k_bin, k_eqB, k_eqA, k_not, k_neg, k_conv, k_alloc, k_boxA, k_boxI, k_boxB, k_boxN, k_boxBs, k_ldR, k_ldA, k_ldI, k_ldB, k_stA, k_stI, k_stB, ldC_some, stC_some, k_mkfn, k_slc, k_slcA, k_ixA, k_ixBs, k_ixSl, k_fadr, k_fld, k_ext, k_len, k_app, k_mn, k_mx, k_nilck, k_build, k_bsl1, k_bsl2, b_add, b_sub, b_mul, b_eql, b_neq, b_lss, b_leq, b_gtr, b_geq, Dn.setLast, Dn.getLast, evalO, mapO, Dn.get, putE, keepE, TV.one, TV.isAgg, Dn.part, hlen, e1, hp1, hv1, r1]
    · by_cases r2 : 10000000000000000 < ui
      · refine .inl ⟨?_, i, hi, by omega⟩
        rw [l44_1, den_loop]
        simp [b44_0, go_nil, go_last, go_past, go_pastR, go_blkN, go_blkR, go_blkE, go_skip, go_exit, go_ret, go_scope, go_seq, go_reg, go_block, go_cond, cnd_b, go_opsN, go_ops, go_opsG, grd_b, grd_u, stp_some, fin_some, up_some, cont_some, k_call, k_mv, k_pick, k_bin, k_eqB, k_eqA, k_not, k_neg, k_conv, k_alloc, k_boxA, k_boxI, k_boxB, k_boxN, k_boxBs, k_ldR, k_ldA, k_ldI, k_ldB, k_stA, k_stI, k_stB, ldC_some, stC_some, k_mkfn, k_slc, k_slcA, k_ixA, k_ixBs, k_ixSl, k_fadr, k_fld, k_ext, k_len, k_app, k_mn, k_mx, k_nilck, k_build, k_bsl1, k_bsl2, b_add, b_sub, b_mul, b_eql, b_neq, b_lss, b_leq, b_gtr, b_geq, Dn.setLast, Dn.getLast, evalO, mapO, Dn.get, putE, keepE, TV.one, TV.isAgg, Dn.part, hlen, e1, hp1, hv1, r1, r2]
      · by_cases r3 : li < 1
        · refine .inl ⟨?_, i, hi, by omega⟩
          rw [l44_1, den_loop]
          simp [b44_0, go_nil, go_last, go_past, go_pastR, go_blkN, go_blkR, go_blkE, go_skip, go_exit, go_ret, go_scope, go_seq, go_reg, go_block, go_cond, cnd_b, go_opsN, go_ops, go_opsG, grd_b, grd_u, stp_some, fin_some, up_some, cont_some, k_call, k_mv, k_pick, k_bin, k_eqB, k_eqA, k_not, k_neg, k_conv, k_alloc, k_boxA, k_boxI, k_boxB, k_boxN, k_boxBs, k_ldR, k_ldA, k_ldI, k_ldB, k_stA, k_stI, k_stB, ldC_some, stC_some, k_mkfn, k_slc, k_slcA, k_ixA, k_ixBs, k_ixSl, k_fadr, k_fld, k_ext, k_len, k_app, k_mn, k_mx, k_nilck, k_build, k_bsl1, k_bsl2, b_add, b_sub, b_mul, b_eql, b_neq, b_lss, b_leq, b_gtr, b_geq, Dn.setLast, Dn.getLast, evalO, mapO, Dn.get, putE, keepE, TV.one, TV.isAgg, Dn.part, hlen, e1, hp1, hv1, r1, r2, hp2, hv2, r3]
        · by_cases r4 : 10000000000000 < li
          · refine .inl ⟨?_, i, hi, by omega⟩
            rw [l44_1, den_loop]
            simp [b44_0, go_nil, go_last, go_past, go_pastR, go_blkN, go_blkR, go_blkE, go_skip, go_exit, go_ret, go_scope, go_seq, go_reg, go_block, go_cond, cnd_b, go_opsN, go_ops, go_opsG, grd_b, grd_u, stp_some, fin_some, up_some, cont_some, k_call, k_mv, k_pick, k_bin, k_eqB, k_eqA, k_not, k_neg, k_conv, k_alloc, k_boxA, k_boxI, k_boxB, k_boxN, k_boxBs, k_ldR, k_ldA, k_ldI, k_ldB, k_stA, k_stI, k_stB, ldC_some, stC_some, k_mkfn, k_slc, k_slcA, k_ixA, k_ixBs, k_ixSl, k_fadr, k_fld, k_ext, k_len, k_app, k_mn, k_mx, k_nilck, k_build, k_bsl1, k_bsl2, b_add, b_sub, b_mul, b_eql, b_neq, b_lss, b_leq, b_gtr, b_geq, Dn.setLast, Dn.getLast, evalO, mapO, Dn.get, putE, keepE, TV.one, TV.isAgg, Dn.part, hlen, e1, hp1, hv1, r1, r2, hp2, hv2, r3, r4]
          · have hstep : den pg l44_1 [(0, (elS true).lt true X), (1, U), (2, L), (7, .i .i64 (i : Int))] H = den pg l44_1 [(0, (elS true).lt true X), (1, U), (2, L), (7, .i .i64 ((i + 1 : Nat) : Int))] H := by
              rw [l44_1, den_loop]
              simp [l44_1, b44_0, go_nil, go_last, go_past, go_pastR, go_blkN, go_blkR, go_blkE, go_skip, go_exit, go_ret, go_scope, go_seq, go_reg, go_block, go_cond, cnd_b, go_opsN, go_ops, go_opsG, grd_b, grd_u, stp_some, fin_some, up_some, cont_some, k_call, k_mv, k_pick, k_bin, k_eqB, k_eqA, k_not, k_neg, k_conv, k_alloc, k_boxA, k_boxI, k_boxB, k_boxN, k_boxBs, k_ldR, k_ldA, k_ldI, k_ldB, k_stA, k_stI, k_stB, ldC_some, stC_some, k_mkfn, k_slc, k_slcA, k_ixA, k_ixBs, k_ixSl, k_fadr, k_fld, k_ext, k_len, k_app, k_mn, k_mx, k_nilck, k_build, k_bsl1, k_bsl2, b_add, b_sub, b_mul, b_eql, b_neq, b_lss, b_leq, b_gtr, b_geq, Dn.setLast, Dn.getLast, evalO, mapO, Dn.get, putE, keepE, TV.one, TV.isAgg, Dn.part, hlen, e1, e2, hp1, hv1, r1, r2, hp2, hv2, r3, r4]
            rw [hstep]
            rcases ih with h1 | ⟨e, h1, h2, h3⟩
            · exact .inl h1
            · refine .inr ⟨e, h1, h2, fun j hj1 hj2 => ?_⟩
              by_cases he : j = i
              · subst he; omega
              · exact h3 j (by omega) hj2

theorem l44_3_all {pg : Pg} {X : List Obs} {g : Nat} (hm : Market X g) {us ls : List Int} (har : arR X us ls) {U L C : TV} {c : Bool} (hC : ∀ H, (elR c).View H C (costs X)) (hU : SV U us) (hL : SV L ls) {i : Nat} (hi : i < X.length) {H : Heap} : ∀ (d k : Nat), k + d = X.length →
    (den pg l44_3 [(0, (elS true).lt true X), (1, U), (2, L), (8, C), (9, .i .i64 (i : Int)), (10, .i .i64 (k : Int))] H = some ⟨.ret, [(6, .b false)], H⟩ ∧ ∃ j, j < X.length ∧ ¬ us.getD j 0 ≤ us.getD i 0 + ls.getD i 0 * ovr X i j) ∨
    (∃ e, den pg l44_3 [(0, (elS true).lt true X), (1, U), (2, L), (8, C), (9, .i .i64 (i : Int)), (10, .i .i64 (k : Int))] H = some ⟨.exit 4, e, H⟩ ∧
      keepE [0, 1, 2, 8, 9] e = [(0, (elS true).lt true X), (1, U), (2, L), (8, C), (9, .i .i64 (i : Int))] ∧ ∀ j, k ≤ j → j < X.length → us.getD j 0 ≤ us.getD i 0 + ls.getD i 0 * ovr X i j)
  | 0, k, h => by
    have e1 : ¬ ((k : Int) < (X.length : Int)) := by omega
    have hlen := El.lt_len (E := elS true) true X
    refine .inr ⟨[(0, (elS true).lt true X), (1, U), (2, L), (8, C), (9, .i .i64 (i : Int)), (10, .i .i64 (k : Int)), (66, .b false)], ?_, rfl, fun j h1 h2 => by omega⟩
    rw [l44_3, den_loop]
    simp [b44_2, go_nil, go_last, go_past, go_pastR, go_blkN, go_blkR, go_blkE, go_skip, go_exit, go_ret, go_scope, go_seq, go_reg, go_block, go_cond, cnd_b, go_opsN, go_ops, go_opsG, grd_b, grd_u, stp_some, fin_some, up_some, cont_some, k_call, k_mv, k_pick, k_bin, k_eqB, k_eqA, k_not, k_neg, k_conv, k_alloc, k_boxA, k_boxI, k_boxB, k_boxN, k_boxBs, k_ldR, k_ldA, k_ldI, k_ldB, k_stA, k_stI, k_stB, ldC_some, stC_some, k_mkfn, k_slc, k_slcA, k_ixA, k_ixBs, k_ixSl, k_fadr, k_fld, k_ext, k_len, k_app, k_mn, k_mx, k_nilck, k_build, k_bsl1, k_bsl2, b_add, b_sub, b_mul, b_eql, b_neq, b_lss, b_leq, b_gtr, b_geq, Dn.setLast, Dn.getLast, evalO, mapO, Dn.get, putE, keepE, TV.one, TV.isAgg, Dn.part, hlen, e1]
  | d + 1, k, h => by
    have hn5 := hm.n5
    have hk : k < X.length := by omega
    have e1 : ((k : Int) < (X.length : Int)) := by omega
    have e2 : wrapR .i64 ((k : Int) + 1) = .i .i64 ((k : Int) + 1) := wrapR_i64 (by omega)
    have hlen := El.lt_len (E := elS true) true X
    obtain ⟨g1, g2, g3, f1, f2⟩ := ar_fit hm har hi hk
    obtain ⟨p1, hp1, hv1⟩ := ixI (pg := pg) (R := den pg) (hU.view H) g1
    obtain ⟨p2, hp2, hv2⟩ := ixI (pg := pg) (R := den pg) (hL.view H) g2
    obtain ⟨p3, hp3, hv3⟩ := ixI (pg := pg) (R := den pg) (hU.view H) g3
    obtain ⟨p4, hp4, hv4⟩ := ixR (pg := pg) (R := den pg) (hC H) (costs_get hi)
    obtain ⟨p5, hp5, hv5⟩ := ixI (pg := pg) (R := den pg) (El.lt_view c (costRow X i) H : elI.View H _ _) (costRow_get hk)
    obtain ⟨p6, hp6, hv6⟩ := ixI (pg := pg) (R := den pg) (El.lt_view c (costRow X i) H : elI.View H _ _) (costRow_get hi)
    have u1 := hm.cost hi hk
    have u2 := hm.cost hi hi
    have f0 : wrapR .i64 (costOf X i k - costOf X i i) = .i .i64 (ovr X i k) := by unfold ovr; exact wrapR_i64 (by omega)
    by_cases hok : us.getD k 0 ≤ us.getD i 0 + ls.getD i 0 * ovr X i k
    · have hok' : ¬ (us.getD i 0 + ls.getD i 0 * ovr X i k < us.getD k 0) := by omega
      have hstep : den pg l44_3 [(0, (elS true).lt true X), (1, U), (2, L), (8, C), (9, .i .i64 (i : Int)), (10, .i .i64 (k : Int))] H = den pg l44_3 [(0, (elS true).lt true X), (1, U), (2, L), (8, C), (9, .i .i64 (i : Int)), (10, .i .i64 ((k + 1 : Nat) : Int))] H := by
        generalize us.getD i 0 = ui at *
        generalize ls.getD i 0 = li at *
        generalize us.getD k 0 = uk at *
        generalize ovr X i k = oo at *
        rw [l44_3, den_loop]
        simp [l44_3, b44_2, go_nil, go_last, go_past, go_pastR, go_blkN, go_blkR, go_blkE, go_skip, go_exit, go_ret, go_scope, go_seq, go_reg, go_block, go_cond, cnd_b, go_opsN, go_ops, go_opsG, grd_b, grd_u, stp_some, fin_some, up_some, cont_some, k_call, k_mv, k_pick, k_bin, k_eqB, k_eqA, k_not, k_neg, k_conv, k_alloc, k_boxA, k_boxI, k_boxB, k_boxN, k_boxBs, k_ldR, k_ldA, k_ldI, k_ldB, k_stA, k_stI, k_stB, ldC_some, stC_some, k_mkfn, k_slc, k_slcA, k_ixA, k_ixBs, k_ixSl, k_fadr, k_fld, k_ext, k_len, k_app, k_mn, k_mx, k_nilck, k_build, k_bsl1, k_bsl2, b_add, b_sub, b_mul, b_eql, b_neq, b_lss, b_leq, b_gtr, b_geq, Dn.setLast, Dn.getLast, evalO, mapO, Dn.get, putE, keepE, TV.one, TV.isAgg, Dn.part, hlen, e1, e2, hp1, hv1, hp2, hv2, hp3, hv3, hp4, hv4, hp5, hv5, hp6, hv6, f0, f1, f2, hok']
      rw [hstep]
      rcases l44_3_all (pg := pg) hm har hC hU hL hi (H := H) d (k + 1) (by omega) with h1 | ⟨e, h1, h2, h3⟩
      · exact .inl h1
      · refine .inr ⟨e, h1, h2, fun j hj1 hj2 => ?_⟩
        by_cases he : j = k
        · subst he; exact hok
        · exact h3 j (by omega) hj2
    · have hok' : us.getD i 0 + ls.getD i 0 * ovr X i k < us.getD k 0 := by omega
      refine .inl ⟨?_, k, hk, hok⟩
      generalize us.getD i 0 = ui at *
      generalize ls.getD i 0 = li at *
      generalize us.getD k 0 = uk at *
      generalize ovr X i k = oo at *
      rw [l44_3, den_loop]
      simp [b44_2, go_nil, go_last, go_past, go_pastR, go_blkN, go_blkR, go_blkE, go_skip, go_exit, go_ret, go_scope, go_seq, go_reg, go_block, go_cond, cnd_b, go_opsN, go_ops, go_opsG, grd_b, grd_u, stp_some, fin_some, up_some, cont_some, k_call, k_mv, k_pick, k_bin, k_eqB, k_eqA, k_not, k_neg, k_conv, k_alloc, k_boxA, k_boxI, k_boxB, k_boxN, k_boxBs, k_ldR, k_ldA, k_ldI, k_ldB, k_stA, k_stI, k_stB, ldC_some, stC_some, k_mkfn, k_slc, k_slcA, k_ixA, k_ixBs, k_ixSl, k_fadr, k_fld, k_ext, k_len, k_app, k_mn, k_mx, k_nilck, k_build, k_bsl1, k_bsl2, b_add, b_sub, b_mul, b_eql, b_neq, b_lss, b_leq, b_gtr, b_geq, Dn.setLast, Dn.getLast, evalO, mapO, Dn.get, putE, keepE, TV.one, TV.isAgg, Dn.part, hlen, e1, hp1, hv1, hp2, hv2, hp3, hv3, hp4, hv4, hp5, hv5, hp6, hv6, f0, f1, f2, hok']

theorem l44_5_all {pg : Pg} {X : List Obs} {g : Nat} (hm : Market X g) {us ls : List Int} (har : arR X us ls) {U L C : TV} {c : Bool} (hC : ∀ H, (elR c).View H C (costs X)) (hU : SV U us) (hL : SV L ls) {H : Heap} : ∀ (d i : Nat), i + d = X.length →
    (den pg l44_5 [(0, (elS true).lt true X), (1, U), (2, L), (8, C), (9, .i .i64 (i : Int))] H = some ⟨.ret, [(6, .b false)], H⟩ ∧ ∃ a j, a < X.length ∧ j < X.length ∧ ¬ us.getD j 0 ≤ us.getD a 0 + ls.getD a 0 * ovr X a j) ∨
    (∃ e, den pg l44_5 [(0, (elS true).lt true X), (1, U), (2, L), (8, C), (9, .i .i64 (i : Int))] H = some ⟨.exit 2, e, H⟩ ∧ ∀ a j, i ≤ a → a < X.length → j < X.length → us.getD j 0 ≤ us.getD a 0 + ls.getD a 0 * ovr X a j)
  | 0, i, h => by
    have e1 : ¬ ((i : Int) < (X.length : Int)) := by omega
    have hlen := El.lt_len (E := elS true) true X
    refine .inr ⟨[(0, (elS true).lt true X), (1, U), (2, L), (8, C), (9, .i .i64 (i : Int)), (60, .b false)], ?_, fun a j h1 h2 => by omega⟩
    rw [l44_5, den_loop]
    simp [b44_4, go_nil, go_last, go_past, go_pastR, go_blkN, go_blkR, go_blkE, go_skip, go_exit, go_ret, go_scope, go_seq, go_reg, go_block, go_cond, cnd_b, go_opsN, go_ops, go_opsG, grd_b, grd_u, stp_some, fin_some, up_some, cont_some, k_call, k_mv, k_pick, k_bin, k_eqB, k_eqA, k_not, k_neg, k_conv, k_alloc, k_boxA, k_boxI, k_boxB, k_boxN, k_boxBs, k_ldR, k_ldA, k_ldI, k_ldB, k_stA, k_stI, k_stB, ldC_some, stC_some, k_mkfn, k_slc, k_slcA, k_ixA, k_ixBs, k_ixSl, k_fadr, k_fld, k_ext, k_len, k_app, k_mn, k_mx, k_nilck, k_build, k_bsl1, k_bsl2, b_add, b_sub, b_mul, b_eql, b_neq, b_lss, b_leq, b_gtr, b_geq, Dn.setLast, Dn.getLast, evalO, mapO, Dn.get, putE, keepE, TV.one, TV.isAgg, Dn.part, hlen, e1]
  | d + 1, i, h => by
    have hn5 := hm.n5
    have hi : i < X.length := by omega
    have e1 : ((i : Int) < (X.length : Int)) := by omega
    have e2 : wrapR .i64 ((i : Int) + 1) = .i .i64 ((i : Int) + 1) := wrapR_i64 (by omega)
    have hlen := El.lt_len (E := elS true) true X
    rcases l44_3_all (pg := pg) hm har hC hU hL hi (H := H) X.length 0 (by omega) with ⟨h1, j, h2, h3⟩ | ⟨e, h1, h2, h3⟩
    · refine .inl ⟨?_, i, j, hi, h2, h3⟩
      simp only [Int.natCast_zero] at h1
      rw [l44_5, den_loop]
      simp [b44_4, go_nil, go_last, go_past, go_pastR, go_blkN, go_blkR, go_blkE, go_skip, go_exit, go_ret, go_scope, go_seq, go_reg, go_block, go_cond, cnd_b, go_opsN, go_ops, go_opsG, grd_b, grd_u, stp_some, fin_some, up_some, cont_some, k_call, k_mv, k_pick, k_bin, k_eqB, k_eqA, k_not, k_neg, k_conv, k_alloc, k_boxA, k_boxI, k_boxB, k_boxN, k_boxBs, k_ldR, k_ldA, k_ldI, k_ldB, k_stA, k_stI, k_stB, ldC_some, stC_some, k_mkfn, k_slc, k_slcA, k_ixA, k_ixBs, k_ixSl, k_fadr, k_fld, k_ext, k_len, k_app, k_mn, k_mx, k_nilck, k_build, k_bsl1, k_bsl2, b_add, b_sub, b_mul, b_eql, b_neq, b_lss, b_leq, b_gtr, b_geq, Dn.setLast, Dn.getLast, evalO, mapO, Dn.get, putE, keepE, TV.one, TV.isAgg, Dn.part, hlen, e1, go_denK (c := l44_3) rfl, h1]
    · have g0 := keep_get h2 (s := 0) (by simp) rfl
      have g1 := keep_get h2 (s := 1) (by simp) rfl
      have g2 := keep_get h2 (s := 2) (by simp) rfl
      have g8 := keep_get h2 (s := 8) (by simp) rfl
      have g9 := keep_get h2 (s := 9) (by simp) rfl
      have hstep : den pg l44_5 [(0, (elS true).lt true X), (1, U), (2, L), (8, C), (9, .i .i64 (i : Int))] H = den pg l44_5 [(0, (elS true).lt true X), (1, U), (2, L), (8, C), (9, .i .i64 ((i + 1 : Nat) : Int))] H := by
        simp only [Int.natCast_zero] at h1
        rw [l44_5, den_loop]
        simp [l44_5, b44_4, go_nil, go_last, go_past, go_pastR, go_blkN, go_blkR, go_blkE, go_skip, go_exit, go_ret, go_scope, go_seq, go_reg, go_block, go_cond, cnd_b, go_opsN, go_ops, go_opsG, grd_b, grd_u, stp_some, fin_some, up_some, cont_some, k_call, k_mv, k_pick, k_bin, k_eqB, k_eqA, k_not, k_neg, k_conv, k_alloc, k_boxA, k_boxI, k_boxB, k_boxN, k_boxBs, k_ldR, k_ldA, k_ldI, k_ldB, k_stA, k_stI, k_stB, ldC_some, stC_some, k_mkfn, k_slc, k_slcA, k_ixA, k_ixBs, k_ixSl, k_fadr, k_fld, k_ext, k_len, k_app, k_mn, k_mx, k_nilck, k_build, k_bsl1, k_bsl2, b_add, b_sub, b_mul, b_eql, b_neq, b_lss, b_leq, b_gtr, b_geq, Dn.setLast, Dn.getLast, evalO, mapO, Dn.get, putE, keepE, TV.one, TV.isAgg, Dn.part, hlen, e1, e2, go_denK (c := l44_3) rfl, h1, g0, g1, g2, g8, g9]
      rw [hstep]
      rcases l44_5_all (pg := pg) hm har hC hU hL (H := H) d (i + 1) (by omega) with k1 | ⟨e', k1, k2⟩
      · exact .inl k1
      · refine .inr ⟨e', k1, fun a j ha1 ha2 hj => ?_⟩
        by_cases he : a = i
        · subst he; exact h3 j (Nat.zero_le _) hj
        · exact k2 a j (by omega) ha2 hj

theorem getD_mem {l : List Int} {x : Int} (h : x ∈ l) : ∃ i, i < l.length ∧ l.getD i 0 = x := by
  obtain ⟨i, hi, rfl⟩ := List.getElem_of_mem h
  exact ⟨i, hi, by rw [List.getD, List.getElem?_eq_getElem hi]; rfl⟩

theorem call44 {pg : Pg} (hF : Free pg) {X : List Obs} {g : Nat} (hm : Market X g) (us ls : List Int) :
    ∃ r : Bool, (∀ H U L, SV U us → SV L ls → callRun pg (den pg) (.pu []) [.fn 44 [] [], (elS false).lt false X, U, L] H = some (.b r, H)) ∧ (r = true ↔ arN X us ls) := by
  have hn5 := hm.n5
  have hd : pg.F 44 = some d44 := by rw [hF.F]; rfl
  have hlen := El.lt_len (E := elS true) true X
  have c37 := call37 hF hm (elS_RV true true X) []
  have hCv : ∀ H, (elR false).View H ((elR false).lt false (costs X)) (costs X) := fun H => El.lt_view _ _ _
  have fin : ∀ r : Bool, (∀ U L, SV U us → SV L ls → go pg (den pg) [.c d44.body] .normal (zipE [(elS true).lt true X, U, L] 0) [] = some ⟨.ret, [(6, .b r)], []⟩) → ∀ H U L, SV U us → SV L ls → callRun pg (den pg) (.pu []) [.fn 44 [] [], (elS false).lt false X, U, L] H = some (.b r, H) := by
    intro r hr H U L hU hL
    obtain ⟨U', s1, s2⟩ := hU.snap H 7
    obtain ⟨L', t1, t2⟩ := hL.snap H 7
    exact PFn.call (xs := [(elS true).lt true X, U', L']) (.of1 (x := .ret) (e := [(6, .b r)]) (H' := []) (hF.S _ _ (by decide)) hd rfl (hr U' L' s2 t2) (.inl rfl) rfl (by simp [sn_i, sn_b, sn_nil, sn8_i, sn8_b, sn8_nil, sn7_i, sn7_b, sn_sl, sn8_sl, slB_some, sn_tup, sn_agg, sn8_agg, mapO, elems])) (args := [(elS false).lt false X, U, L]) (by simp [snapArgs, snZ, s1, t1])
  by_cases lu : us.length = X.length
  · by_cases ll : ls.length = X.length
    · have lU : ∀ U, SV U us → lenK 0 U [] = some X.length := fun U hU => by rw [← lu]; exact (hU.view []).lenK []
      have lL : ∀ L, SV L ls → lenK 0 L [] = some X.length := fun L hL => by rw [← ll]; exact (hL.view []).lenK []
      by_cases hrange : ∀ j, j < X.length → (-10000000000000000 ≤ us.getD j 0 ∧ us.getD j 0 ≤ 10000000000000000) ∧ 1 ≤ ls.getD j 0 ∧ ls.getD j 0 ≤ 10000000000000
      · have har : arR X us ls := ⟨lu, ll, fun x hx => by
          obtain ⟨i, hi, rfl⟩ := getD_mem hx
          exact (hrange i (by omega)).1, fun x hx => by
          obtain ⟨i, hi, rfl⟩ := getD_mem hx
          exact (hrange i (by omega)).2⟩
        by_cases hok : ∀ i k, i < X.length → k < X.length → us.getD k 0 ≤ us.getD i 0 + ls.getD i 0 * ovr X i k
        · refine ⟨true, fin true fun U L hU hL => ?_, ⟨fun _ => ⟨lu, ll, har.ru, har.rl, hok⟩, fun _ => rfl⟩⟩
          have lu' := lU U hU
          have ll' := lL L hL
          rcases l44_1_all (pg := pg) lu ll hn5 hU hL (H := []) X.length 0 (by omega) with ⟨_, j, hj, hb⟩ | ⟨e, h1, h2, _⟩
          · exact absurd (hrange j hj) hb
          · have g0 := keep_get h2 (s := 0) (by simp) rfl
            have g1 := keep_get h2 (s := 1) (by simp) rfl
            have g2 := keep_get h2 (s := 2) (by simp) rfl
            rcases l44_5_all (pg := pg) hm har hCv hU hL (H := []) X.length 0 (by omega) with ⟨_, a, j, ha, hj, hbad⟩ | ⟨e', k1, _⟩
            · exact absurd (hok a j ha hj) hbad
            · simp only [Int.natCast_zero] at h1 k1
              simp [d44, c44, zipE, go_nil, go_last, go_past, go_pastR, go_blkN, go_blkR, go_blkE, go_skip, go_exit, go_ret, go_scope, go_seq, go_reg, go_block, go_cond, cnd_b, go_opsN, go_ops, go_opsG, grd_b, grd_u, stp_some, fin_some, up_some, cont_some, k_call, k_mv, k_pick, k_bin, k_eqB, k_eqA, k_not, k_neg, k_conv, k_alloc, k_boxA, k_boxI, k_boxB, k_boxN, k_boxBs, k_ldR, k_ldA, k_ldI, k_ldB, k_stA, k_stI, k_stB, ldC_some, stC_some, k_mkfn, k_slc, k_slcA, k_ixA, k_ixBs, k_ixSl, k_fadr, k_fld, k_ext, k_len, k_app, k_mn, k_mx, k_nilck, k_build, k_bsl1, k_bsl2, b_add, b_sub, b_mul, b_eql, b_neq, b_lss, b_leq, b_gtr, b_geq, Dn.setLast, Dn.getLast, evalO, mapO, Dn.get, putE, keepE, TV.one, TV.isAgg, Dn.part, lu', ll', hlen, go_denK (c := l44_1) rfl, h1, g0, g1, g2, c37, go_denK (c := l44_5) rfl, k1]
        · refine ⟨false, fin false fun U L hU hL => ?_, ⟨fun h => (by cases h), fun h => absurd h.ok hok⟩⟩
          have lu' := lU U hU
          have ll' := lL L hL
          rcases l44_1_all (pg := pg) lu ll hn5 hU hL (H := []) X.length 0 (by omega) with ⟨_, j, hj, hb⟩ | ⟨e, h1, h2, _⟩
          · exact absurd (hrange j hj) hb
          · have g0 := keep_get h2 (s := 0) (by simp) rfl
            have g1 := keep_get h2 (s := 1) (by simp) rfl
            have g2 := keep_get h2 (s := 2) (by simp) rfl
            rcases l44_5_all (pg := pg) hm har hCv hU hL (H := []) X.length 0 (by omega) with ⟨k1, _⟩ | ⟨e', _, k2⟩
            · simp only [Int.natCast_zero] at h1 k1
              simp [d44, c44, zipE, go_nil, go_last, go_past, go_pastR, go_blkN, go_blkR, go_blkE, go_skip, go_exit, go_ret, go_scope, go_seq, go_reg, go_block, go_cond, cnd_b, go_opsN, go_ops, go_opsG, grd_b, grd_u, stp_some, fin_some, up_some, cont_some, k_call, k_mv, k_pick, k_bin, k_eqB, k_eqA, k_not, k_neg, k_conv, k_alloc, k_boxA, k_boxI, k_boxB, k_boxN, k_boxBs, k_ldR, k_ldA, k_ldI, k_ldB, k_stA, k_stI, k_stB, ldC_some, stC_some, k_mkfn, k_slc, k_slcA, k_ixA, k_ixBs, k_ixSl, k_fadr, k_fld, k_ext, k_len, k_app, k_mn, k_mx, k_nilck, k_build, k_bsl1, k_bsl2, b_add, b_sub, b_mul, b_eql, b_neq, b_lss, b_leq, b_gtr, b_geq, Dn.setLast, Dn.getLast, evalO, mapO, Dn.get, putE, keepE, TV.one, TV.isAgg, Dn.part, lu', ll', hlen, go_denK (c := l44_1) rfl, h1, g0, g1, g2, c37, go_denK (c := l44_5) rfl, k1]
            · exact absurd (fun i k hi hk => k2 i k (Nat.zero_le _) hi hk) hok
      · refine ⟨false, fin false fun U L hU hL => ?_, ⟨fun h => (by cases h), fun h => ?_⟩⟩
        · have lu' := lU U hU
          have ll' := lL L hL
          rcases l44_1_all (pg := pg) lu ll hn5 hU hL (H := []) X.length 0 (by omega) with ⟨h1, _⟩ | ⟨e, _, _, h3⟩
          · simp only [Int.natCast_zero] at h1
            simp [d44, c44, zipE, go_nil, go_last, go_past, go_pastR, go_blkN, go_blkR, go_blkE, go_skip, go_exit, go_ret, go_scope, go_seq, go_reg, go_block, go_cond, cnd_b, go_opsN, go_ops, go_opsG, grd_b, grd_u, stp_some, fin_some, up_some, cont_some, k_call, k_mv, k_pick, k_bin, k_eqB, k_eqA, k_not, k_neg, k_conv, k_alloc, k_boxA, k_boxI, k_boxB, k_boxN, k_boxBs, k_ldR, k_ldA, k_ldI, k_ldB, k_stA, k_stI, k_stB, ldC_some, stC_some, k_mkfn, k_slc, k_slcA, k_ixA, k_ixBs, k_ixSl, k_fadr, k_fld, k_ext, k_len, k_app, k_mn, k_mx, k_nilck, k_build, k_bsl1, k_bsl2, b_add, b_sub, b_mul, b_eql, b_neq, b_lss, b_leq, b_gtr, b_geq, Dn.setLast, Dn.getLast, evalO, mapO, Dn.get, putE, keepE, TV.one, TV.isAgg, Dn.part, lu', ll', hlen, go_denK (c := l44_1) rfl, h1]
          · exact absurd (fun j hj => h3 j (Nat.zero_le _) hj) hrange
        · exfalso
          apply hrange
          intro j hj
          exact ⟨h.ru _ (List.mem_of_getElem? (getD_get (by omega))), h.rl _ (List.mem_of_getElem? (getD_get (by omega)))⟩
    · refine ⟨false, fin false fun U L hU hL => ?_, ⟨fun h => (by cases h), fun h => absurd h.ll ll⟩⟩
      have lu' := (hU.view []).lenK []
      have ll' := (hL.view []).lenK []
      rw [lu] at lu'
      have hne : ((ls.length : Int) != (X.length : Int)) = true := by simp; omega
      simp [d44, c44, zipE, go_nil, go_last, go_past, go_pastR, go_blkN, go_blkR, go_blkE, go_skip, go_exit, go_ret, go_scope, go_seq, go_reg, go_block, go_cond, cnd_b, go_opsN, go_ops, go_opsG, grd_b, grd_u, stp_some, fin_some, up_some, cont_some, k_call, k_mv, k_pick, k_bin, k_eqB, k_eqA, k_not, k_neg, k_conv, k_alloc, k_boxA, k_boxI, k_boxB, k_boxN, k_boxBs, k_ldR, k_ldA, k_ldI, k_ldB, k_stA, k_stI, k_stB, ldC_some, stC_some, k_mkfn, k_slc, k_slcA, k_ixA, k_ixBs, k_ixSl, k_fadr, k_fld, k_ext, k_len, k_app, k_mn, k_mx, k_nilck, k_build, k_bsl1, k_bsl2, b_add, b_sub, b_mul, b_eql, b_neq, b_lss, b_leq, b_gtr, b_geq, Dn.setLast, Dn.getLast, evalO, mapO, Dn.get, putE, keepE, TV.one, TV.isAgg, Dn.part, lu', ll', hlen, hne]
  · refine ⟨false, fin false fun U L hU hL => ?_, ⟨fun h => (by cases h), fun h => absurd h.lu lu⟩⟩
    have lu' := (hU.view []).lenK []
    have hne : ((us.length : Int) != (X.length : Int)) = true := by simp; omega
    simp [d44, c44, zipE, go_nil, go_last, go_past, go_pastR, go_blkN, go_blkR, go_blkE, go_skip, go_exit, go_ret, go_scope, go_seq, go_reg, go_block, go_cond, cnd_b, go_opsN, go_ops, go_opsG, grd_b, grd_u, stp_some, fin_some, up_some, cont_some, k_call, k_mv, k_pick, k_bin, k_eqB, k_eqA, k_not, k_neg, k_conv, k_alloc, k_boxA, k_boxI, k_boxB, k_boxN, k_boxBs, k_ldR, k_ldA, k_ldI, k_ldB, k_stA, k_stI, k_stB, ldC_some, stC_some, k_mkfn, k_slc, k_slcA, k_ixA, k_ixBs, k_ixSl, k_fadr, k_fld, k_ext, k_len, k_app, k_mn, k_mx, k_nilck, k_build, k_bsl1, k_bsl2, b_add, b_sub, b_mul, b_eql, b_neq, b_lss, b_leq, b_gtr, b_geq, Dn.setLast, Dn.getLast, evalO, mapO, Dn.get, putE, keepE, TV.one, TV.isAgg, Dn.part, lu', hlen, hne]

theorem NI.ar {X : List Obs} {g : Nat} (hm : Market X g) {u l : Nat → Int} (h : NI X (2 ^ X.length - 1) u l (bnd 5)) : arN X (firstN u X.length) (firstN l X.length) := by
  have hb := bnd5
  have hbit : ∀ j, j < X.length → (2 ^ X.length - 1).testBit j = true := fun j hj => by rw [all_bits]; simpa using hj
  have hget : ∀ (f : Nat → Int) i, i < X.length → (firstN f X.length).getD i 0 = f i := fun f i hi => by rw [List.getD, firstN_get f hi]; rfl
  refine ⟨firstN_len _ _, firstN_len _ _, fun x hx => ?_, fun x hx => ?_, fun i k hi hk => ?_⟩
  · obtain ⟨j, hj, rfl⟩ := List.mem_map.1 hx
    have := h.ur j (by simpa using hj) (hbit j (by simpa using hj))
    omega
  · obtain ⟨j, hj, rfl⟩ := List.mem_map.1 hx
    have := h.lr j (by simpa using hj) (hbit j (by simpa using hj))
    omega
  · rw [hget _ _ hi, hget _ _ hi, hget _ _ hk]
    exact h.ok i k hi hk (hbit i hi) (hbit k hk)

end Go.Proofs.Tryd.Dn

