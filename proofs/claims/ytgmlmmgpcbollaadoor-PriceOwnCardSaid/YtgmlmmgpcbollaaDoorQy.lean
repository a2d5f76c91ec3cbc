/-
  PriceOwn: the whole run answers true.
-/
import Derived.Test.YtgmlmmgpcbollaaDoorQv
import Derived.Test.YtgmlmmgpcbollaaDoorQw
set_option linter.unusedSimpArgs false
set_option linter.unusedVariables false

namespace Go.Proofs.Tryd.Dn
open Go.Dn

/-- rows of one length -/
def Sq (n : Nat) (ls : List (List Int)) : Prop := ls.length = n ∧ ∀ (i : Nat) r, ls[i]? = some r → r.length = n

theorem Sq.set {n : Nat} {ls : List (List Int)} (h : Sq n ls) (i : Nat) {r : List Int} (hr : r.length = n) : Sq n (ls.set i r) := by
  refine ⟨by simp [h.1], fun j s hs => ?_⟩
  by_cases hj : i = j
  · subst hj
    have hlt := (List.getElem?_eq_some_iff.1 hs).1
    rw [List.length_set] at hlt
    rw [List.getElem?_set_self hlt] at hs
    cases hs
    exact hr
  · rw [List.getElem?_set_ne hj] at hs
    exact h.2 j s hs

theorem Sq.costs {X : List Obs} : Sq X.length (costs X) := by
  refine ⟨costs_len X, fun i r hr => ?_⟩
  obtain ⟨k, _, rfl⟩ := List.mem_map.1 (List.mem_of_getElem? hr)
  simp [costRow]

theorem nest_bor {α : Type} {E : El α} {H : Heap} {out : TV} {ls : List (List α)} (h : Nest E H out ls) (hs : E.Flat) (f : Nat) : Dn.snap .borrow H (f + 4) out = some ((elRw E true).lt true ls) := by
  obtain ⟨ts, h1, h2, h3⟩ := h
  refine h1.to (m := .borrow) (by decide) (E' := elRw E true) rfl ?_
  have : ∀ (ts : List {t : TV // t.one = true}) (ls : List (List α)), ts.length = ls.length → (∀ (i : Nat) t l, ts[i]? = some t → ls[i]? = some l → E.Own H t.1 l) → mapO (Dn.snap .borrow H (f + 3)) (ts.map elC.val) = some (ls.map (elRw E true).val) := by
    intro ts
    induction ts with
    | nil => intro ls hl _; cases ls with
      | nil => rfl
      | cons x l => simp at hl
    | cons t ts ih =>
      intro ls hl hk
      cases ls with
      | nil => simp at hl
      | cons l ls =>
        have ht := hk 0 t l rfl rfl
        have hv : Dn.snap .borrow H (f + 3) t.1 = some (E.lt true l) := ht.to (by decide) (E' := E) rfl (hs.mapO .borrow H f l)
        rw [List.map_cons, mapO, show elC.val t = t.1 from rfl, hv, Option.bind_some, ih ls (by simpa using hl) fun i t l h1 h2 => hk (i + 1) t l h1 h2]
        rfl
  exact this ts ls h2 fun i t l ht hl => (h3 i t l ht hl).1

theorem l7_1_all {pg : Pg} {n : Nat} (hn : n ≤ 5) {A5 A6 c A8 A9 A10 A11 A12 A14 : TV} {ts : List {t : TV // t.one = true}} {i HL : Nat} (hi : i < n) : ∀ (d j : Nat) (ls : List (List Int)) (H : Heap), j + d = n → Sq n ls → NestD elI H c ts ls → (∀ (i : Nat) t id, ts[i]? = some t → t.1.idOf = some id → id < HL) →
    ∃ e H' ls', den pg l7_1 [(5, A5), (6, A6), (7, c), (8, A8), (9, A9), (10, A10), (11, A11), (12, A12), (14, A14), (15, .i .i64 (i : Int)), (16, .i .i64 (j : Int))] H = some ⟨.exit 2, e, H'⟩ ∧
      keepE [5, 6, 7, 8, 9, 10, 11, 12, 14, 15] e = [(5, A5), (6, A6), (7, c), (8, A8), (9, A9), (10, A10), (11, A11), (12, A12), (14, A14), (15, .i .i64 (i : Int))] ∧ Sq n ls' ∧ NestD elI H' c ts ls' ∧ H'.length = H.length ∧ ∀ j, HL ≤ j → H'[j]? = H[j]?
  | 0, j, ls, H, h, hsq, hN, hts => by
    obtain ⟨row, hi'⟩ : ∃ row, ls[i]? = some row := ⟨_, List.getElem?_eq_getElem (by rw [hsq.1]; exact hi)⟩
    have hl := hsq.2 i _ hi'
    obtain ⟨p, t, h1, h2, h3, h4⟩ := NestD.at2 (pg := pg) (R := den pg) hN hi'
    have lr := (hN.row i t _ h1 hi').1.view.lenK H
    rw [hl] at lr
    have e1 : ¬ ((j : Int) < (n : Int)) := by omega
    refine ⟨[(5, A5), (6, A6), (7, c), (8, A8), (9, A9), (10, A10), (11, A11), (12, A12), (14, A14), (15, .i .i64 (i : Int)), (16, .i .i64 (j : Int)), (60, .b false)], H, ls, ?_, rfl, hsq, hN, rfl, fun _ _ => rfl⟩
    rw [l7_1, den_loop]
    simp [b7_0, go_nil, go_last, go_past, go_pastR, go_blkN, go_blkR, go_blkE, go_skip, go_exit, go_ret, go_scope, go_seq, go_reg, go_regd, go_opdN, go_opd, go_opdG, grdd_b, grdd_u, stpd_some, find_some, go_block, go_cond, cnd_b, go_opsN, go_ops, go_opsG, grd_b, grd_u, stp_some, fin_some, up_some, cont_some, k_call, k_mv, k_pick, k_bin, k_eqB, k_eqA, k_not, k_neg, k_conv, k_alloc, k_boxA, k_boxI, k_boxB, k_boxN, k_boxBs, k_ldR, k_ldA, k_ldI, k_ldB, k_stA, k_stI, k_stB, ldC_some, stC_some, k_mkfn, k_slc, k_slcA, k_ixA, k_ixBs, k_ixSl, k_fadr, k_fld, k_ext, k_len, k_app, k_mn, k_mx, k_nilck, k_build, k_bsl1, k_bsl2, b_add, b_sub, b_mul, b_eql, b_neq, b_lss, b_leq, b_gtr, b_geq, Dn.setLast, Dn.getLast, evalO, mapO, Dn.get, putE, keepE, TV.one, TV.isAgg, Dn.part, h2, h3, lr, e1]
  | d + 1, j, ls, H, h, hsq, hN, hts => by
    obtain ⟨row, hi'⟩ : ∃ row, ls[i]? = some row := ⟨_, List.getElem?_eq_getElem (by rw [hsq.1]; exact hi)⟩
    have hl := hsq.2 i _ hi'
    obtain ⟨p, t, h1, h2, h3, h4⟩ := NestD.at2 (pg := pg) (R := den pg) hN hi'
    have lr := (hN.row i t _ h1 hi').1.view.lenK H
    rw [hl] at lr
    have e1 : ((j : Int) < (n : Int)) := by omega
    have e2 : wrapR .i64 ((j : Int) + 1) = .i .i64 ((j : Int) + 1) := wrapR_i64 (by omega)
    obtain ⟨x, hj'⟩ : ∃ x, row[j]? = some x := ⟨_, List.getElem?_eq_getElem (by omega)⟩
    obtain ⟨q, k1, _, k2⟩ := h4 j _ hj'
    obtain ⟨H1, s1, s2, s3, s4⟩ := k2 (-1)
    have k1' : dkc pg (den pg) (.ixS 1 false) [t.1, .i .i64 (j : Int)] H = some (q, H) := k1
    have s1' : dkc pg (den pg) (.st 1) [q, .i .i64 (-1)] H = some (.undef, H1) := s1
    obtain ⟨e, H', ls', r1, r2, r3, r4, r5, r6⟩ := l7_1_all (pg := pg) hn (A5 := A5) (A6 := A6) (A8 := A8) (A9 := A9) (A10 := A10) (A11 := A11) (A12 := A12) (A14 := A14) hi d (j + 1) _ H1 (by omega) (hsq.set i (r := row.set j (-1)) (by simpa using hl)) s2 hts
    refine ⟨e, H', ls', Eq.trans ?_ r1, r2, r3, r4, by omega, fun m hm => by rw [r6 m hm, s4 m (fun he => by have := hts i t m h1 he; omega)]⟩
    rw [l7_1, den_loop]
    -- the store's place is named by its operands alone
    have hq : ∃ id o, q = .ref id o := by
      cases q <;> first | exact ⟨_, _, rfl⟩ | (simp [dkc, dk] at s1'; done)
    obtain ⟨qi, qo, rfl⟩ := hq
    rw [k_stI] at s1'
    simp [l7_1, b7_0, go_nil, go_last, go_past, go_pastR, go_blkN, go_blkR, go_blkE, go_skip, go_exit, go_ret, go_scope, go_seq, go_reg, go_regd, go_opdN, go_opd, go_opdG, grdd_b, grdd_u, stpd_some, find_some, go_block, go_cond, cnd_b, go_opsN, go_ops, go_opsG, grd_b, grd_u, stp_some, fin_some, up_some, cont_some, k_call, k_mv, k_pick, k_bin, k_eqB, k_eqA, k_not, k_neg, k_conv, k_alloc, k_boxA, k_boxI, k_boxB, k_boxN, k_boxBs, k_ldR, k_ldA, k_ldI, k_ldB, k_stA, k_stI, k_stB, ldC_some, stC_some, k_mkfn, k_slc, k_slcA, k_ixA, k_ixBs, k_ixSl, k_fadr, k_fld, k_ext, k_len, k_app, k_mn, k_mx, k_nilck, k_build, k_bsl1, k_bsl2, b_add, b_sub, b_mul, b_eql, b_neq, b_lss, b_leq, b_gtr, b_geq, Dn.setLast, Dn.getLast, evalO, mapO, Dn.get, putE, keepE, TV.one, TV.isAgg, Dn.part, h2, h3, lr, e1, e2, k1', s1']

theorem l7_3_all {pg : Pg} {n : Nat} (hn : n ≤ 5) {A5 A6 c A8 A9 A10 A11 A12 A14 : TV} {ts : List {t : TV // t.one = true}} {HL : Nat} : ∀ (d i : Nat) (ls : List (List Int)) (H : Heap), i + d = n → Sq n ls → NestD elI H c ts ls → (∀ (i : Nat) t id, ts[i]? = some t → t.1.idOf = some id → id < HL) →
    ∃ e H', den pg l7_3 [(5, A5), (6, A6), (7, c), (8, A8), (9, A9), (10, A10), (11, A11), (12, A12), (14, A14), (15, .i .i64 (i : Int))] H = some ⟨.exit 0, e, H'⟩ ∧
      keepE [5, 6, 8, 9, 10, 11, 12, 14] e = [(5, A5), (6, A6), (8, A8), (9, A9), (10, A10), (11, A11), (12, A12), (14, A14)] ∧ H'.length = H.length ∧ ∀ j, HL ≤ j → H'[j]? = H[j]?
  | 0, i, ls, H, h, hsq, hN, hts => by
    have lc := hN.own.view.lenK H
    rw [hN.len, hsq.1] at lc
    have e1 : ¬ ((i : Int) < (n : Int)) := by omega
    refine ⟨[(5, A5), (6, A6), (7, c), (8, A8), (9, A9), (10, A10), (11, A11), (12, A12), (14, A14), (15, .i .i64 (i : Int)), (51, .b false)], H, ?_, rfl, rfl, fun _ _ => rfl⟩
    rw [l7_3, den_loop]
    simp [b7_2, go_nil, go_last, go_past, go_pastR, go_blkN, go_blkR, go_blkE, go_skip, go_exit, go_ret, go_scope, go_seq, go_reg, go_regd, go_opdN, go_opd, go_opdG, grdd_b, grdd_u, stpd_some, find_some, go_block, go_cond, cnd_b, go_opsN, go_ops, go_opsG, grd_b, grd_u, stp_some, fin_some, up_some, cont_some, k_call, k_mv, k_pick, k_bin, k_eqB, k_eqA, k_not, k_neg, k_conv, k_alloc, k_boxA, k_boxI, k_boxB, k_boxN, k_boxBs, k_ldR, k_ldA, k_ldI, k_ldB, k_stA, k_stI, k_stB, ldC_some, stC_some, k_mkfn, k_slc, k_slcA, k_ixA, k_ixBs, k_ixSl, k_fadr, k_fld, k_ext, k_len, k_app, k_mn, k_mx, k_nilck, k_build, k_bsl1, k_bsl2, b_add, b_sub, b_mul, b_eql, b_neq, b_lss, b_leq, b_gtr, b_geq, Dn.setLast, Dn.getLast, evalO, mapO, Dn.get, putE, keepE, TV.one, TV.isAgg, Dn.part, lc, e1]
  | d + 1, i, ls, H, h, hsq, hN, hts => by
    have lc := hN.own.view.lenK H
    rw [hN.len, hsq.1] at lc
    have e1 : ((i : Int) < (n : Int)) := by omega
    have e2 : wrapR .i64 ((i : Int) + 1) = .i .i64 ((i : Int) + 1) := wrapR_i64 (by omega)
    obtain ⟨e, H1, ls1, r1, r2, r3, r4, r5, r6⟩ := l7_1_all (pg := pg) hn (A5 := A5) (A6 := A6) (A8 := A8) (A9 := A9) (A10 := A10) (A11 := A11) (A12 := A12) (A14 := A14) (i := i) (by omega) n 0 ls H (by omega) hsq hN hts
    simp only [Int.natCast_zero] at r1
    have g5 := keep_get r2 (s := 5) (by simp) rfl
    have g6 := keep_get r2 (s := 6) (by simp) rfl
    have g7 := keep_get r2 (s := 7) (by simp) rfl
    have g8 := keep_get r2 (s := 8) (by simp) rfl
    have g9 := keep_get r2 (s := 9) (by simp) rfl
    have g10 := keep_get r2 (s := 10) (by simp) rfl
    have g11 := keep_get r2 (s := 11) (by simp) rfl
    have g12 := keep_get r2 (s := 12) (by simp) rfl
    have g14 := keep_get r2 (s := 14) (by simp) rfl
    have g15 := keep_get r2 (s := 15) (by simp) rfl
    obtain ⟨e', H', q1, q2, q3, q4⟩ := l7_3_all (pg := pg) hn (A5 := A5) (A6 := A6) (A8 := A8) (A9 := A9) (A10 := A10) (A11 := A11) (A12 := A12) (A14 := A14) d (i + 1) ls1 H1 (by omega) r3 r4 hts
    refine ⟨e', H', Eq.trans ?_ q1, q2, by omega, fun m hm => by rw [q4 m hm, r6 m hm]⟩
    rw [l7_3, den_loop]
    simp [l7_3, b7_2, go_nil, go_last, go_past, go_pastR, go_blkN, go_blkR, go_blkE, go_skip, go_exit, go_ret, go_scope, go_seq, go_reg, go_regd, go_opdN, go_opd, go_opdG, grdd_b, grdd_u, stpd_some, find_some, go_block, go_cond, cnd_b, go_opsN, go_ops, go_opsG, grd_b, grd_u, stp_some, fin_some, up_some, cont_some, k_call, k_mv, k_pick, k_bin, k_eqB, k_eqA, k_not, k_neg, k_conv, k_alloc, k_boxA, k_boxI, k_boxB, k_boxN, k_boxBs, k_ldR, k_ldA, k_ldI, k_ldB, k_stA, k_stI, k_stB, ldC_some, stC_some, k_mkfn, k_slc, k_slcA, k_ixA, k_ixBs, k_ixSl, k_fadr, k_fld, k_ext, k_len, k_app, k_mn, k_mx, k_nilck, k_build, k_bsl1, k_bsl2, b_add, b_sub, b_mul, b_eql, b_neq, b_lss, b_leq, b_gtr, b_geq, Dn.setLast, Dn.getLast, evalO, mapO, Dn.get, putE, keepE, TV.one, TV.isAgg, Dn.part, lc, e1, e2, go_denK (c := l7_1) rfl, r1, g5, g6, g7, g8, g9, g10, g11, g12, g14, g15]

theorem l7_5_all {pg : Pg} {A5 A6 A8 A10 A11 A12 A14 M : TV} {n : Nat} (hn : n ≤ 1000) : ∀ (d i : Nat) (ls : List Int) (H : Heap), i + d = n → ls.length = n → elI.Own H M ls →
    ∃ e H', den pg l7_5 [(5, A5), (6, A6), (8, A8), (9, M), (10, A10), (11, A11), (12, A12), (14, A14), (18, .i .i64 (i : Int))] H = some ⟨.exit 4, e, H'⟩ ∧ keepE [5, 6, 8, 10, 11, 12, 14] e = [(5, A5), (6, A6), (8, A8), (10, A10), (11, A11), (12, A12), (14, A14)] ∧ H'.length = H.length ∧ ∀ j, M.idOf ≠ some j → H'[j]? = H[j]?
  | 0, i, ls, H, h, hl, hO => by
    have lc := hO.view.lenK H
    rw [hl] at lc
    have e1 : ¬ ((i : Int) < (n : Int)) := by omega
    refine ⟨[(5, A5), (6, A6), (8, A8), (9, M), (10, A10), (11, A11), (12, A12), (14, A14), (18, .i .i64 (i : Int)), (73, .b false)], H, ?_, rfl, rfl, fun _ _ => rfl⟩
    rw [l7_5, den_loop]
    simp [b7_4, go_nil, go_last, go_past, go_pastR, go_blkN, go_blkR, go_blkE, go_skip, go_exit, go_ret, go_scope, go_seq, go_reg, go_regd, go_opdN, go_opd, go_opdG, grdd_b, grdd_u, stpd_some, find_some, go_block, go_cond, cnd_b, go_opsN, go_ops, go_opsG, grd_b, grd_u, stp_some, fin_some, up_some, cont_some, k_call, k_mv, k_pick, k_bin, k_eqB, k_eqA, k_not, k_neg, k_conv, k_alloc, k_boxA, k_boxI, k_boxB, k_boxN, k_boxBs, k_ldR, k_ldA, k_ldI, k_ldB, k_stA, k_stI, k_stB, ldC_some, stC_some, k_mkfn, k_slc, k_slcA, k_ixA, k_ixBs, k_ixSl, k_fadr, k_fld, k_ext, k_len, k_app, k_mn, k_mx, k_nilck, k_build, k_bsl1, k_bsl2, b_add, b_sub, b_mul, b_eql, b_neq, b_lss, b_leq, b_gtr, b_geq, Dn.setLast, Dn.getLast, evalO, mapO, Dn.get, putE, keepE, TV.one, TV.isAgg, Dn.part, lc, e1]
  | d + 1, i, ls, H, h, hl, hO => by
    have lc := hO.view.lenK H
    rw [hl] at lc
    have e1 : ((i : Int) < (n : Int)) := by omega
    have e2 : wrapR .i64 ((i : Int) + 1) = .i .i64 ((i : Int) + 1) := wrapR_i64 (by omega)
    obtain ⟨p, H1, p1, p2, p3, p4, p5⟩ := ownSet (pg := pg) (R := den pg) hO (i := i) (by omega) (-1)
    have hq : ∃ id o, p = .ref id o := by
      cases p <;> first | exact ⟨_, _, rfl⟩ | (simp [dkc, dk] at p2; done)
    obtain ⟨qi, qo, rfl⟩ := hq
    rw [k_stI] at p2
    obtain ⟨e, H', r1, r2, r3, r4⟩ := l7_5_all (pg := pg) (A5 := A5) (A6 := A6) (A8 := A8) (A10 := A10) (A11 := A11) (A12 := A12) (A14 := A14) hn d (i + 1) _ H1 (by omega) (by simpa using hl) p3
    refine ⟨e, H', Eq.trans ?_ r1, r2, by omega, fun m hm => by rw [r4 m hm, p5 m hm]⟩
    rw [l7_5, den_loop]
    simp [l7_5, b7_4, go_nil, go_last, go_past, go_pastR, go_blkN, go_blkR, go_blkE, go_skip, go_exit, go_ret, go_scope, go_seq, go_reg, go_regd, go_opdN, go_opd, go_opdG, grdd_b, grdd_u, stpd_some, find_some, go_block, go_cond, cnd_b, go_opsN, go_ops, go_opsG, grd_b, grd_u, stp_some, fin_some, up_some, cont_some, k_call, k_mv, k_pick, k_bin, k_eqB, k_eqA, k_not, k_neg, k_conv, k_alloc, k_boxA, k_boxI, k_boxB, k_boxN, k_boxBs, k_ldR, k_ldA, k_ldI, k_ldB, k_stA, k_stI, k_stB, ldC_some, stC_some, k_mkfn, k_slc, k_slcA, k_ixA, k_ixBs, k_ixSl, k_fadr, k_fld, k_ext, k_len, k_app, k_mn, k_mx, k_nilck, k_build, k_bsl1, k_bsl2, b_add, b_sub, b_mul, b_eql, b_neq, b_lss, b_leq, b_gtr, b_geq, Dn.setLast, Dn.getLast, evalO, mapO, Dn.get, putE, keepE, TV.one, TV.isAgg, Dn.part, lc, e1, e2, p1, p2]

theorem l7_7_all {pg : Pg} {A5 A6 A8 A10 A12 A14 U : TV} {n : Nat} (hn : n ≤ 1000) : ∀ (d i : Nat) (ls : List Int) (H : Heap), i + d = n → ls.length = n → elI.Own H U ls →
    ∃ e H', den pg l7_7 [(5, A5), (6, A6), (8, A8), (10, A10), (11, U), (12, A12), (14, A14), (19, .i .i64 (i : Int))] H = some ⟨.exit 6, e, H'⟩ ∧ keepE [5, 6, 8, 10, 12, 14] e = [(5, A5), (6, A6), (8, A8), (10, A10), (12, A12), (14, A14)] ∧ H'.length = H.length ∧ ∀ j, U.idOf ≠ some j → H'[j]? = H[j]?
  | 0, i, ls, H, h, hl, hO => by
    have lc := hO.view.lenK H
    rw [hl] at lc
    have e1 : ¬ ((i : Int) < (n : Int)) := by omega
    refine ⟨[(5, A5), (6, A6), (8, A8), (10, A10), (11, U), (12, A12), (14, A14), (19, .i .i64 (i : Int)), (82, .b false)], H, ?_, rfl, rfl, fun _ _ => rfl⟩
    rw [l7_7, den_loop]
    simp [b7_6, go_nil, go_last, go_past, go_pastR, go_blkN, go_blkR, go_blkE, go_skip, go_exit, go_ret, go_scope, go_seq, go_reg, go_regd, go_opdN, go_opd, go_opdG, grdd_b, grdd_u, stpd_some, find_some, go_block, go_cond, cnd_b, go_opsN, go_ops, go_opsG, grd_b, grd_u, stp_some, fin_some, up_some, cont_some, k_call, k_mv, k_pick, k_bin, k_eqB, k_eqA, k_not, k_neg, k_conv, k_alloc, k_boxA, k_boxI, k_boxB, k_boxN, k_boxBs, k_ldR, k_ldA, k_ldI, k_ldB, k_stA, k_stI, k_stB, ldC_some, stC_some, k_mkfn, k_slc, k_slcA, k_ixA, k_ixBs, k_ixSl, k_fadr, k_fld, k_ext, k_len, k_app, k_mn, k_mx, k_nilck, k_build, k_bsl1, k_bsl2, b_add, b_sub, b_mul, b_eql, b_neq, b_lss, b_leq, b_gtr, b_geq, Dn.setLast, Dn.getLast, evalO, mapO, Dn.get, putE, keepE, TV.one, TV.isAgg, Dn.part, lc, e1]
  | d + 1, i, ls, H, h, hl, hO => by
    have lc := hO.view.lenK H
    rw [hl] at lc
    have e1 : ((i : Int) < (n : Int)) := by omega
    have e2 : wrapR .i64 ((i : Int) + 1) = .i .i64 ((i : Int) + 1) := wrapR_i64 (by omega)
    obtain ⟨p, H1, p1, p2, p3, p4, p5⟩ := ownSet (pg := pg) (R := den pg) hO (i := i) (by omega) (-1)
    have hq : ∃ id o, p = .ref id o := by
      cases p <;> first | exact ⟨_, _, rfl⟩ | (simp [dkc, dk] at p2; done)
    obtain ⟨qi, qo, rfl⟩ := hq
    rw [k_stI] at p2
    obtain ⟨e, H', r1, r2, r3, r4⟩ := l7_7_all (pg := pg) (A5 := A5) (A6 := A6) (A8 := A8) (A10 := A10) (A12 := A12) (A14 := A14) hn d (i + 1) _ H1 (by omega) (by simpa using hl) p3
    refine ⟨e, H', Eq.trans ?_ r1, r2, by omega, fun m hm => by rw [r4 m hm, p5 m hm]⟩
    rw [l7_7, den_loop]
    simp [l7_7, b7_6, go_nil, go_last, go_past, go_pastR, go_blkN, go_blkR, go_blkE, go_skip, go_exit, go_ret, go_scope, go_seq, go_reg, go_regd, go_opdN, go_opd, go_opdG, grdd_b, grdd_u, stpd_some, find_some, go_block, go_cond, cnd_b, go_opsN, go_ops, go_opsG, grd_b, grd_u, stp_some, fin_some, up_some, cont_some, k_call, k_mv, k_pick, k_bin, k_eqB, k_eqA, k_not, k_neg, k_conv, k_alloc, k_boxA, k_boxI, k_boxB, k_boxN, k_boxBs, k_ldR, k_ldA, k_ldI, k_ldB, k_stA, k_stI, k_stB, ldC_some, stC_some, k_mkfn, k_slc, k_slcA, k_ixA, k_ixBs, k_ixSl, k_fadr, k_fld, k_ext, k_len, k_app, k_mn, k_mx, k_nilck, k_build, k_bsl1, k_bsl2, b_add, b_sub, b_mul, b_eql, b_neq, b_lss, b_leq, b_gtr, b_geq, Dn.setLast, Dn.getLast, evalO, mapO, Dn.get, putE, keepE, TV.one, TV.isAgg, Dn.part, lc, e1, e2, p1, p2]

theorem l7_9_all {pg : Pg} {A5 A6 A8 A10 A14 K : TV} {n : Nat} (hn : n ≤ 1000) : ∀ (d i : Nat) (ls : List Int) (H : Heap), i + d = n → ls.length = n → elI.Own H K ls →
    ∃ e H', den pg l7_9 [(5, A5), (6, A6), (8, A8), (10, A10), (12, K), (14, A14), (20, .i .i64 (i : Int))] H = some ⟨.exit 8, e, H'⟩ ∧ keepE [5, 6, 8, 10, 14] e = [(5, A5), (6, A6), (8, A8), (10, A10), (14, A14)] ∧ H'.length = H.length ∧ ∀ j, K.idOf ≠ some j → H'[j]? = H[j]?
  | 0, i, ls, H, h, hl, hO => by
    have lc := hO.view.lenK H
    rw [hl] at lc
    have e1 : ¬ ((i : Int) < (n : Int)) := by omega
    refine ⟨[(5, A5), (6, A6), (8, A8), (10, A10), (12, K), (14, A14), (20, .i .i64 (i : Int)), (91, .b false)], H, ?_, rfl, rfl, fun _ _ => rfl⟩
    rw [l7_9, den_loop]
    simp [b7_8, go_nil, go_last, go_past, go_pastR, go_blkN, go_blkR, go_blkE, go_skip, go_exit, go_ret, go_scope, go_seq, go_reg, go_regd, go_opdN, go_opd, go_opdG, grdd_b, grdd_u, stpd_some, find_some, go_block, go_cond, cnd_b, go_opsN, go_ops, go_opsG, grd_b, grd_u, stp_some, fin_some, up_some, cont_some, k_call, k_mv, k_pick, k_bin, k_eqB, k_eqA, k_not, k_neg, k_conv, k_alloc, k_boxA, k_boxI, k_boxB, k_boxN, k_boxBs, k_ldR, k_ldA, k_ldI, k_ldB, k_stA, k_stI, k_stB, ldC_some, stC_some, k_mkfn, k_slc, k_slcA, k_ixA, k_ixBs, k_ixSl, k_fadr, k_fld, k_ext, k_len, k_app, k_mn, k_mx, k_nilck, k_build, k_bsl1, k_bsl2, b_add, b_sub, b_mul, b_eql, b_neq, b_lss, b_leq, b_gtr, b_geq, Dn.setLast, Dn.getLast, evalO, mapO, Dn.get, putE, keepE, TV.one, TV.isAgg, Dn.part, lc, e1]
  | d + 1, i, ls, H, h, hl, hO => by
    have lc := hO.view.lenK H
    rw [hl] at lc
    have e1 : ((i : Int) < (n : Int)) := by omega
    have e2 : wrapR .i64 ((i : Int) + 1) = .i .i64 ((i : Int) + 1) := wrapR_i64 (by omega)
    obtain ⟨p, H1, p1, p2, p3, p4, p5⟩ := ownSet (pg := pg) (R := den pg) hO (i := i) (by omega) (-1)
    have hq : ∃ id o, p = .ref id o := by
      cases p <;> first | exact ⟨_, _, rfl⟩ | (simp [dkc, dk] at p2; done)
    obtain ⟨qi, qo, rfl⟩ := hq
    rw [k_stI] at p2
    obtain ⟨e, H', r1, r2, r3, r4⟩ := l7_9_all (pg := pg) (A5 := A5) (A6 := A6) (A8 := A8) (A10 := A10) (A14 := A14) hn d (i + 1) _ H1 (by omega) (by simpa using hl) p3
    refine ⟨e, H', Eq.trans ?_ r1, r2, by omega, fun m hm => by rw [r4 m hm, p5 m hm]⟩
    rw [l7_9, den_loop]
    simp [l7_9, b7_8, go_nil, go_last, go_past, go_pastR, go_blkN, go_blkR, go_blkE, go_skip, go_exit, go_ret, go_scope, go_seq, go_reg, go_regd, go_opdN, go_opd, go_opdG, grdd_b, grdd_u, stpd_some, find_some, go_block, go_cond, cnd_b, go_opsN, go_ops, go_opsG, grd_b, grd_u, stp_some, fin_some, up_some, cont_some, k_call, k_mv, k_pick, k_bin, k_eqB, k_eqA, k_not, k_neg, k_conv, k_alloc, k_boxA, k_boxI, k_boxB, k_boxN, k_boxBs, k_ldR, k_ldA, k_ldI, k_ldB, k_stA, k_stI, k_stB, ldC_some, stC_some, k_mkfn, k_slc, k_slcA, k_ixA, k_ixBs, k_ixSl, k_fadr, k_fld, k_ext, k_len, k_app, k_mn, k_mx, k_nilck, k_build, k_bsl1, k_bsl2, b_add, b_sub, b_mul, b_eql, b_neq, b_lss, b_leq, b_gtr, b_geq, Dn.setLast, Dn.getLast, evalO, mapO, Dn.get, putE, keepE, TV.one, TV.isAgg, Dn.part, lc, e1, e2, p1, p2]

theorem l7_11_all {pg : Pg} (hF : Free pg) {X : List Obs} {g : Nat} (hm : Market X g) {H : Heap} : ∀ (d i : Nat), i + d = X.length → ∃ e, den pg l7_11 [(5, (elS false).lt false X), (6, (elS false).lt false X), (25, .i .i64 (i : Int))] H = some ⟨.exit 10, e, H⟩
  | 0, i, h => by
    have lX := El.lt_len (E := elS false) false X H
    have e1 : ¬ ((i : Int) < (X.length : Int)) := by omega
    refine ⟨[(5, (elS false).lt false X), (6, (elS false).lt false X), (25, .i .i64 (i : Int)), (149, .b false)], ?_⟩
    rw [l7_11, den_loop]
    simp [b7_10, go_nil, go_last, go_past, go_pastR, go_blkN, go_blkR, go_blkE, go_skip, go_exit, go_ret, go_scope, go_seq, go_reg, go_regd, go_opdN, go_opd, go_opdG, grdd_b, grdd_u, stpd_some, find_some, go_block, go_cond, cnd_b, go_opsN, go_ops, go_opsG, grd_b, grd_u, stp_some, fin_some, up_some, cont_some, k_call, k_mv, k_pick, k_bin, k_eqB, k_eqA, k_not, k_neg, k_conv, k_alloc, k_boxA, k_boxI, k_boxB, k_boxN, k_boxBs, k_ldR, k_ldA, k_ldI, k_ldB, k_stA, k_stI, k_stB, ldC_some, stC_some, k_mkfn, k_slc, k_slcA, k_ixA, k_ixBs, k_ixSl, k_fadr, k_fld, k_ext, k_len, k_app, k_mn, k_mx, k_nilck, k_build, k_bsl1, k_bsl2, b_add, b_sub, b_mul, b_eql, b_neq, b_lss, b_leq, b_gtr, b_geq, Dn.setLast, Dn.getLast, evalO, mapO, Dn.get, putE, keepE, TV.one, TV.isAgg, Dn.part, lX, e1]
  | d + 1, i, h => by
    have hn5 := hm.n5
    have hg3 := hm.g3
    have lX := El.lt_len (E := elS false) false X H
    have e1 : ((i : Int) < (X.length : Int)) := by omega
    have e2 : wrapR .i64 ((i : Int) + 1) = .i .i64 ((i : Int) + 1) := wrapR_i64 (by omega)
    obtain ⟨a1, _, _, _⟩ := prices_ok hm (i := i) (by omega)
    obtain ⟨bo, a, c, hix, ha, hc⟩ := (elS_RV false false X).ix (pg := pg) (R := den pg) (getD_obs (i := i) (by omega)) H
    obtain ⟨f1, f2⟩ := k_fadrP (pg := pg) (R := den pg) bo a c ha.noagg hc.noagg H
    have d1 := k_ldV (pg := pg) (R := den pg) bo a ha.one H
    have d2 := k_ldV (pg := pg) (R := den pg) bo c hc.one H
    obtain ⟨q1, q2⟩ := market_lens hm
    have qq := q2 _ (List.mem_of_getElem? (getD_obs (X := X) (i := i) (by omega)))
    have c1 := call22 hF ha ha (by omega) H
    have c2 := call22 hF hc hc (by omega) H
    obtain ⟨e, h3⟩ := l7_11_all hF hm (H := H) d (i + 1) (by omega)
    refine ⟨e, Eq.trans ?_ h3⟩
    rw [l7_11, den_loop]
    simp [l7_11, b7_10, go_nil, go_last, go_past, go_pastR, go_blkN, go_blkR, go_blkE, go_skip, go_exit, go_ret, go_scope, go_seq, go_reg, go_regd, go_opdN, go_opd, go_opdG, grdd_b, grdd_u, stpd_some, find_some, go_block, go_cond, cnd_b, go_opsN, go_ops, go_opsG, grd_b, grd_u, stp_some, fin_some, up_some, cont_some, k_call, k_mv, k_pick, k_bin, k_eqB, k_eqA, k_not, k_neg, k_conv, k_alloc, k_boxA, k_boxI, k_boxB, k_boxN, k_boxBs, k_ldR, k_ldA, k_ldI, k_ldB, k_stA, k_stI, k_stB, ldC_some, stC_some, k_mkfn, k_slc, k_slcA, k_ixA, k_ixBs, k_ixSl, k_fadr, k_fld, k_ext, k_len, k_app, k_mn, k_mx, k_nilck, k_build, k_bsl1, k_bsl2, b_add, b_sub, b_mul, b_eql, b_neq, b_lss, b_leq, b_gtr, b_geq, Dn.setLast, Dn.getLast, evalO, mapO, Dn.get, putE, keepE, TV.one, TV.isAgg, Dn.part, lX, e1, e2, hix, f1, f2, d1, d2, c1, c2]

set_option maxRecDepth 20000 in
theorem run7 {pg : Pg} (hF : Free pg) (h24 : PFn pg 24 [] (.b true)) {T : TV} {l : List Obs} (hT : Rws T l) (hl : l.length ≤ 9223372036854775807) (n : Int) : ∃ H, bodyRun pg (den pg) 7 [T, .i .i64 n] [] = some (.b true, H) := by
  obtain ⟨X, g, hm, c17⟩ := call17 hF hT hl n
  have hn5 := hm.n5
  have hX := elS_RV false false X
  have c18 := call18m hF hm
  have c37 := call37 hF hm hX
  have c23 := call23 hF hm
  have c24 := fun H => PFn.call h24 (args := []) (ks := []) (fs := []) (cs := []) (H := H) (by simp [snapArgs])
  have hbest := mostN_len X (2 ^ X.length - 1)
  have lX := fun H => El.lt_len (E := elS false) false X H
  have h35 : ∀ H, ∃ w1 w2 nb xs ys H', bodyRun pg (den pg) 35 [(elS false).lt false X] H = some (.tup [w1, w2, .b nb, .i .i64 0], H') ∧ H.length ≤ H'.length ∧ (∀ j, j < H.length → H'[j]? = H[j]?) ∧
      elI.Own H' w1 xs ∧ elI.Own H' w2 ys ∧ xs.length ≤ 5 ∧ ys.length ≤ 5 ∧ (∀ id, w1.idOf = some id → H.length ≤ id ∧ w2.idOf ≠ some id) ∧ ∀ id, w2.idOf = some id → H.length ≤ id := by
    intro H
    rcases body35 hF hm hX with ⟨_, hb⟩ | ⟨_, u, v, _, hb⟩
    · obtain ⟨H', h1, h2, h3⟩ := hb H
      exact ⟨.nilsl, .nilsl, false, [], [], H', h1, h2, h3, .inl ⟨rfl, rfl⟩, .inl ⟨rfl, rfl⟩, by simp, by simp, fun id h => (by cases h), fun id h => (by cases h)⟩
    · obtain ⟨w1, w2, H', h1, h2, h3, o1, o2, o3, o4⟩ := hb H
      exact ⟨w1, w2, true, _, _, H', h1, h2, h3, o1, o2, by rw [firstN_len]; omega, by rw [firstN_len]; omega, o3, o4⟩
  -- the results
  obtain ⟨c, ts, H1, H0, b34, z1, z2, N1⟩ := body34 hF hm hX []
  obtain ⟨m, H2, b20, l2, o2, M1, M2⟩ := body20 hF hm hX H1
  obtain ⟨w1, w2, nb, xs, ys, H3, b35, l3, o3, U1, K1, hxs, hys, U2, K2⟩ := h35 H2
  have hM2 := M1.lt
  -- written over
  have N3 := N1.n.mono (H' := H3) fun id hid => by rw [o3 id (by omega), o2 id hid]
  obtain ⟨e4, H4, r4, k4, q4, f4⟩ := l7_3_all (pg := pg) hn5 (A5 := (elS false).lt false X) (A6 := (elS false).lt false X) (A8 := .i .i64 0) (A9 := m) (A10 := .i .i64 0) (A11 := w1) (A12 := w2) (A14 := .i .i64 0) (HL := H1.length) X.length 0 (costs X) H3 (by omega) Sq.costs N3 (fun i t id ht hid => N1.n.lt ht hid)
  have M4 : elI.Own H4 m _ := M1.mono fun id hid => by rw [f4 id (M2 id hid), o3 id (hM2 id hid)]
  obtain ⟨e5, H5, r5, k5, q5, f5⟩ := l7_5_all (pg := pg) (A5 := (elS false).lt false X) (A6 := (elS false).lt false X) (A8 := .i .i64 0) (A10 := .i .i64 0) (A11 := w1) (A12 := w2) (A14 := .i .i64 0) (M := m) (n := (nI (mostN X (2 ^ X.length - 1))).length) (by rw [nI_len]; omega) _ 0 _ H4 (by rw [Nat.zero_add]) rfl M4
  have U5 : elI.Own H5 w1 xs := U1.mono fun id hid => by
    have := (U2 id hid).1
    rw [f5 id (fun he => by have := hM2 id he; omega), f4 id (by omega)]
  obtain ⟨e6, H6, r6, k6, q6, f6⟩ := l7_7_all (pg := pg) (A5 := (elS false).lt false X) (A6 := (elS false).lt false X) (A8 := .i .i64 0) (A10 := .i .i64 0) (A12 := w2) (A14 := .i .i64 0) (U := w1) (n := xs.length) (by omega) _ 0 _ H5 (by rw [Nat.zero_add]) rfl U5
  have K6 : elI.Own H6 w2 ys := K1.mono fun id hid => by
    have := K2 id hid
    rw [f6 id (fun he => (U2 id he).2 hid), f5 id (fun he => by have := hM2 id he; omega), f4 id (by omega)]
  obtain ⟨e7, H7, r7, k7, q7, f7⟩ := l7_9_all (pg := pg) (A5 := (elS false).lt false X) (A6 := (elS false).lt false X) (A8 := .i .i64 0) (A10 := .i .i64 0) (A14 := .i .i64 0) (K := w2) (n := ys.length) (by omega) _ 0 _ H6 (by rw [Nat.zero_add]) rfl K6
  -- again
  obtain ⟨d, ts', H8, H8', b34', z1', z2', N8⟩ := body34 hF hm hX H7
  obtain ⟨m', H9, b20', l9, o9, M9, _⟩ := body20 hF hm hX H8
  have N9 := nest_bor (N8.n.mono (H' := H9) o9).nest elI_flat 5
  rw [elRw_I] at N9
  have c36 : callRun pg (den pg) (.pu []) [.fn 36 [] [], d, (elR false).lt false (costs X)] H9 = some (.b true, H9) :=
    PFn.call (fn36 hF (costs_rows hm).1 (costs_rows hm).2) (args := [d, (elR false).lt false (costs X)]) (by simp [snapArgs, N9, snap_rows false false H9 6 (costs X)])
  have hM9 := M9.snap elI_flat
  obtain ⟨B', hB1, hB2⟩ := (SV.lt false (nI (mostN X (2 ^ X.length - 1)))).snap H9 7
  have c22 : callRun pg (den pg) (.pu []) [.fn 22 [] [], m', elI.lt false (nI (mostN X (2 ^ X.length - 1)))] H9 = some (.b true, H9) :=
    PFn.call (fn22 hF (.lt true (nI (mostN X (2 ^ X.length - 1)))) hB2 (by rw [nI_len]; omega)) (args := [m', elI.lt false (nI (mostN X (2 ^ X.length - 1)))]) (by simp [snapArgs, hM9, hB1])
  obtain ⟨eA, rA⟩ := l7_11_all (pg := pg) hF hm (H := H9) X.length 0 (by omega)
  simp only [Int.natCast_zero] at r4 r5 r6 r7 rA
  have a5 := keep_get k4 (s := 5) (by simp) rfl
  have a6 := keep_get k4 (s := 6) (by simp) rfl
  have a8 := keep_get k4 (s := 8) (by simp) rfl
  have a9 := keep_get k4 (s := 9) (by simp) rfl
  have a10 := keep_get k4 (s := 10) (by simp) rfl
  have a11 := keep_get k4 (s := 11) (by simp) rfl
  have a12 := keep_get k4 (s := 12) (by simp) rfl
  have a14 := keep_get k4 (s := 14) (by simp) rfl
  have p5 := keep_get k5 (s := 5) (by simp) rfl
  have p6 := keep_get k5 (s := 6) (by simp) rfl
  have p8 := keep_get k5 (s := 8) (by simp) rfl
  have p10 := keep_get k5 (s := 10) (by simp) rfl
  have p11 := keep_get k5 (s := 11) (by simp) rfl
  have p12 := keep_get k5 (s := 12) (by simp) rfl
  have p14 := keep_get k5 (s := 14) (by simp) rfl
  have s5 := keep_get k6 (s := 5) (by simp) rfl
  have s6 := keep_get k6 (s := 6) (by simp) rfl
  have s8 := keep_get k6 (s := 8) (by simp) rfl
  have s10 := keep_get k6 (s := 10) (by simp) rfl
  have s12 := keep_get k6 (s := 12) (by simp) rfl
  have s14 := keep_get k6 (s := 14) (by simp) rfl
  have v5 := keep_get k7 (s := 5) (by simp) rfl
  have v6 := keep_get k7 (s := 6) (by simp) rfl
  have v8 := keep_get k7 (s := 8) (by simp) rfl
  have v10 := keep_get k7 (s := 10) (by simp) rfl
  have v14 := keep_get k7 (s := 14) (by simp) rfl
  refine ⟨H9, body_of (x := .ret) (e := [(4, .b true)]) (d := d7) (by rw [hF.F]; rfl) rfl ?_ (.inl rfl) rfl⟩
  generalize elI.lt false (nI (mostN X (2 ^ X.length - 1))) = bst at *
  simp [d7, c7, zipE, go_nil, go_last, go_past, go_pastR, go_blkN, go_blkR, go_blkE, go_skip, go_exit, go_ret, go_scope, go_seq, go_reg, go_regd, go_opdN, go_opd, go_opdG, grdd_b, grdd_u, stpd_some, find_some, go_block, go_cond, cnd_b, go_opsN, go_ops, go_opsG, grd_b, grd_u, stp_some, fin_some, up_some, cont_some, k_call, k_mv, k_pick, k_bin, k_eqB, k_eqA, k_not, k_neg, k_conv, k_alloc, k_boxA, k_boxI, k_boxB, k_boxN, k_boxBs, k_ldR, k_ldA, k_ldI, k_ldB, k_stA, k_stI, k_stB, ldC_some, stC_some, k_mkfn, k_slc, k_slcA, k_ixA, k_ixBs, k_ixSl, k_fadr, k_fld, k_ext, k_len, k_app, k_mn, k_mx, k_nilck, k_build, k_bsl1, k_bsl2, b_add, b_sub, b_mul, b_eql, b_neq, b_lss, b_leq, b_gtr, b_geq, Dn.setLast, Dn.getLast, evalO, mapO, Dn.get, putE, keepE, TV.one, TV.isAgg, Dn.part, sh_fn, c17, c18, b34, b20, b35, go_denK (c := l7_3) rfl, r4, a5, a6, a8, a9, a10, a11, a12, a14, go_denK (c := l7_5) rfl, r5, p5, p6, p8, p10, p11, p12, p14, go_denK (c := l7_7) rfl, r6, s5, s6, s8, s10, s12, s14,
    go_denK (c := l7_9) rfl, r7, v5, v6, v8, v10, v14, b34', b20', c37, c36, c23, c22, lX, go_denK (c := l7_11) rfl, rA, c24]

end Go.Proofs.Tryd.Dn

