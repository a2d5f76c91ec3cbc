/-
  The reference's closure of a table.
-/
import Derived.Test.YtgmlmmgpcbollaaDoorQf
import Derived.Test.YtgmlmmgpcbollaaDoorDd
set_option linter.unusedSimpArgs false
set_option linter.unusedVariables false

namespace Go.Proofs.Tryd.Dn
open Go.Dn

def tabl {α : Type} (n : Nat) (P : Nat → Nat → α) : List (List α) := (List.range n).map fun i => (List.range n).map (P i)
def trow {α : Type} (n : Nat) (P : Nat → Nat → α) (i : Nat) : List α := (List.range n).map (P i)

theorem prefs_tab (X : List Obs) (a b : Int) : prefs X a b = tabl X.length (pref X a b) := rfl
theorem tabl_len {α : Type} (n : Nat) (P : Nat → Nat → α) : (tabl n P).length = n := by simp [tabl]
theorem trow_len {α : Type} (n : Nat) (P : Nat → Nat → α) (i : Nat) : (trow n P i).length = n := by simp [trow]
theorem tabl_get {α : Type} {n : Nat} (P : Nat → Nat → α) {i : Nat} (h : i < n) : (tabl n P)[i]? = some (trow n P i) := by simp [tabl, trow, h]
theorem trow_get {α : Type} {n : Nat} (P : Nat → Nat → α) (i : Nat) {k : Nat} (h : k < n) : (trow n P i)[k]? = some (P i k) := by simp [trow, h]

theorem trow_congr {α : Type} {n : Nat} {P Q : Nat → Nat → α} {i : Nat} (h : ∀ k, k < n → P i k = Q i k) : trow n P i = trow n Q i :=
  List.map_congr_left fun k hk => h k (List.mem_range.1 hk)
theorem tabl_congr {α : Type} {n : Nat} {P Q : Nat → Nat → α} (h : ∀ i k, i < n → k < n → P i k = Q i k) : tabl n P = tabl n Q :=
  List.map_congr_left fun i hi => trow_congr fun k hk => h i k (List.mem_range.1 hi) hk

def updT {α : Type} (P : Nat → Nat → α) (i k : Nat) (v : α) : Nat → Nat → α := fun r c => if r = i ∧ c = k then v else P r c

theorem tabl_set {α : Type} {n : Nat} (P : Nat → Nat → α) {i k : Nat} (hi : i < n) (hk : k < n) (v : α) : (tabl n P).set i ((trow n P i).set k v) = tabl n (updT P i k v) := by
  apply List.ext_getElem?
  intro r
  by_cases hr : r < n
  · rw [tabl_get _ hr]
    by_cases hri : r = i
    · subst hri
      rw [List.getElem?_set_self (by rw [tabl_len]; exact hr)]
      congr 1
      apply List.ext_getElem?
      intro c
      by_cases hc : c < n
      · rw [trow_get _ _ hc]
        by_cases hck : c = k
        · subst hck
          rw [List.getElem?_set_self (by rw [trow_len]; exact hc)]
          simp [updT]
        · rw [List.getElem?_set_ne (by omega), trow_get _ _ hc]
          simp [updT, hck]
      · rw [List.getElem?_eq_none (by rw [List.length_set, trow_len]; omega), List.getElem?_eq_none (by rw [trow_len]; omega)]
    · rw [List.getElem?_set_ne (by omega), tabl_get _ hr]
      congr 1
      exact trow_congr fun c hc => by simp [updT, hri]
  · rw [List.getElem?_eq_none (by rw [List.length_set, tabl_len]; omega), List.getElem?_eq_none (by rw [tabl_len]; omega)]

theorem l68_1_all {pg : Pg} {n : Nat} (hn : n ≤ 5) {c : Bool} {T out : TV} {P : Nat → Nat → Int} (hT : ∀ H, (elR c).View H T (tabl n P)) {i : Nat} (hi : i < n) {base : Nat} {H0 : Heap} : ∀ (d k : Nat) (R : TV) (m : List Bool) (H : Heap), k + d = n → RowG elB base H0 H R m → m.length = k →
    ∃ e R' H', den pg l68_1 [(0, T), (3, .i .i64 (n : Int)), (4, out), (5, .i .i64 (i : Int)), (6, R), (7, .i .i64 (k : Int))] H = some ⟨.exit 2, e, H'⟩ ∧
      keepE [0, 3, 4, 5, 6] e = [(0, T), (3, .i .i64 (n : Int)), (4, out), (5, .i .i64 (i : Int)), (6, R')] ∧ RowG elB base H0 H' R' (m ++ ((List.range n).drop k).map fun k => decide (0 < P i k))
  | 0, k, R, m, H, h, hr, hml => by
    have e1 : ¬ ((k : Int) < (n : Int)) := by omega
    refine ⟨[(0, T), (3, .i .i64 (n : Int)), (4, out), (5, .i .i64 (i : Int)), (6, R), (7, .i .i64 (k : Int)), (21, .b false)], R, H, ?_, rfl, ?_⟩
    · rw [l68_1, den_loop]
      simp [b68_0, go_nil, go_last, go_past, go_pastR, go_blkN, go_blkR, go_blkE, go_skip, go_exit, go_ret, go_scope, go_seq, go_reg, go_regd, go_opdN, go_opd, go_opdG, grdd_b, grdd_u, stpd_some, find_some, go_block, go_cond, cnd_b, go_opsN, go_ops, go_opsG, grd_b, grd_u, stp_some, fin_some, up_some, cont_some, k_call, k_mv, k_pick, k_bin, k_eqB, k_eqA, k_not, k_neg, k_conv, k_alloc, k_boxA, k_boxI, k_boxB, k_boxN, k_boxBs, k_ldR, k_ldA, k_ldI, k_ldB, k_stA, k_stI, k_stB, ldC_some, stC_some, k_mkfn, k_slc, k_slcA, k_ixA, k_ixBs, k_ixSl, k_fadr, k_fld, k_ext, k_len, k_app, k_mn, k_mx, k_nilck, k_build, k_bsl1, k_bsl2, b_add, b_sub, b_mul, b_eql, b_neq, b_lss, b_leq, b_gtr, b_geq, Dn.setLast, Dn.getLast, evalO, mapO, Dn.get, putE, keepE, TV.one, TV.isAgg, Dn.part, e1]
    · rw [List.drop_eq_nil_of_le (by simp; omega)]; simpa using hr
  | d + 1, k, R, m, H, h, hr, hml => by
    have hk : k < n := by omega
    have e1 : ((k : Int) < (n : Int)) := by omega
    have e2 : wrapR .i64 ((k : Int) + 1) = .i .i64 ((k : Int) + 1) := wrapR_i64 (by omega)
    obtain ⟨p, hp, hv⟩ := ixR (pg := pg) (R := den pg) (hT H) (tabl_get P hi)
    obtain ⟨q, hq, hw⟩ := ixI (pg := pg) (R := den pg) (El.lt_view c (trow n P i) H : elI.View H _ _) (trow_get P i hk)
    have kb := k_bslB1 (pg := pg) (R := den pg) false (decide (0 < P i k)) H
    obtain ⟨R', H', h1, h2⟩ := hr.push (decide (0 < P i k)) (bytes := 1) (by omega)
    have h1' : appRun 1 false 1 R (.sl H.length 0 1 false 1 (some 1)) (H ++ [.cells [.b (decide (0 < P i k))] false]) = some (R', H') := h1
    obtain ⟨e, R2, H2, h3, h4, h5⟩ := l68_1_all (pg := pg) hn (out := out) hT hi d (k + 1) R' _ H' (by omega) h2 (by simp; omega)
    refine ⟨e, R2, H2, Eq.trans ?_ h3, h4, ?_⟩
    · rw [l68_1, den_loop]
      simp [l68_1, b68_0, go_nil, go_last, go_past, go_pastR, go_blkN, go_blkR, go_blkE, go_skip, go_exit, go_ret, go_scope, go_seq, go_reg, go_regd, go_opdN, go_opd, go_opdG, grdd_b, grdd_u, stpd_some, find_some, go_block, go_cond, cnd_b, go_opsN, go_ops, go_opsG, grd_b, grd_u, stp_some, fin_some, up_some, cont_some, k_call, k_mv, k_pick, k_bin, k_eqB, k_eqA, k_not, k_neg, k_conv, k_alloc, k_boxA, k_boxI, k_boxB, k_boxN, k_boxBs, k_ldR, k_ldA, k_ldI, k_ldB, k_stA, k_stI, k_stB, ldC_some, stC_some, k_mkfn, k_slc, k_slcA, k_ixA, k_ixBs, k_ixSl, k_fadr, k_fld, k_ext, k_len, k_app, k_mn, k_mx, k_nilck, k_build, k_bsl1, k_bsl2, b_add, b_sub, b_mul, b_eql, b_neq, b_lss, b_leq, b_gtr, b_geq, Dn.setLast, Dn.getLast, evalO, mapO, Dn.get, putE, keepE, TV.one, TV.isAgg, Dn.part, e1, e2, hp, hv, hq, hw, kb, h1']
    · rw [range_drop hk, List.map_cons]
      simpa [List.append_assoc] using h5

theorem l68_3_all {pg : Pg} {n : Nat} (hn : n ≤ 5) {c : Bool} {T : TV} {P : Nat → Nat → Int} (hT : ∀ H, (elR c).View H T (tabl n P)) : ∀ (d i : Nat) (out : TV) (ts : List {t : TV // t.one = true}) (ls : List (List Bool)) (H : Heap), i + d = n → NestD elB H out ts ls → ls.length = i →
    ∃ e out' ts' H', den pg l68_3 [(0, T), (3, .i .i64 (n : Int)), (4, out), (5, .i .i64 (i : Int))] H = some ⟨.exit 0, e, H'⟩ ∧ Dn.get e 3 = some (.i .i64 (n : Int)) ∧ Dn.get e 4 = some out' ∧
      NestD elB H' out' ts' (ls ++ ((List.range n).drop i).map fun i => trow n (fun i k => decide (0 < P i k)) i)
  | 0, i, out, ts, ls, H, h, ho, hl => by
    have e1 : ¬ ((i : Int) < (n : Int)) := by omega
    refine ⟨[(0, T), (3, .i .i64 (n : Int)), (4, out), (5, .i .i64 (i : Int)), (16, .b false)], out, ts, H, ?_, rfl, rfl, ?_⟩
    · rw [l68_3, den_loop]
      simp [b68_2, go_nil, go_last, go_past, go_pastR, go_blkN, go_blkR, go_blkE, go_skip, go_exit, go_ret, go_scope, go_seq, go_reg, go_regd, go_opdN, go_opd, go_opdG, grdd_b, grdd_u, stpd_some, find_some, go_block, go_cond, cnd_b, go_opsN, go_ops, go_opsG, grd_b, grd_u, stp_some, fin_some, up_some, cont_some, k_call, k_mv, k_pick, k_bin, k_eqB, k_eqA, k_not, k_neg, k_conv, k_alloc, k_boxA, k_boxI, k_boxB, k_boxN, k_boxBs, k_ldR, k_ldA, k_ldI, k_ldB, k_stA, k_stI, k_stB, ldC_some, stC_some, k_mkfn, k_slc, k_slcA, k_ixA, k_ixBs, k_ixSl, k_fadr, k_fld, k_ext, k_len, k_app, k_mn, k_mx, k_nilck, k_build, k_bsl1, k_bsl2, b_add, b_sub, b_mul, b_eql, b_neq, b_lss, b_leq, b_gtr, b_geq, Dn.setLast, Dn.getLast, evalO, mapO, Dn.get, putE, keepE, TV.one, TV.isAgg, Dn.part, e1]
    · rw [List.drop_eq_nil_of_le (by simp; omega)]; simpa using ho
  | d + 1, i, out, ts, ls, H, h, ho, hl => by
    have hi : i < n := by omega
    have e1 : ((i : Int) < (n : Int)) := by omega
    have e2 : wrapR .i64 ((i : Int) + 1) = .i .i64 ((i : Int) + 1) := wrapR_i64 (by omega)
    obtain ⟨e, R, H1, h1, hk, h2⟩ := l68_1_all (pg := pg) hn (out := out) hT hi n 0 .nilsl [] H (by omega) (RowG.nil H) rfl
    simp only [Int.natCast_zero] at h1
    rw [List.nil_append, show ((List.range n).drop 0).map (fun k => decide (0 < P i k)) = trow n (fun i k => decide (0 < P i k)) i from rfl] at h2
    have g0 := keep_get hk (s := 0) (by simp) rfl
    have g3 := keep_get hk (s := 3) (by simp) rfl
    have g4 := keep_get hk (s := 4) (by simp) rfl
    have g5 := keep_get hk (s := 5) (by simp) rfl
    have g6 := keep_get hk (s := 6) (by simp) rfl
    obtain ⟨o1, o2, o3⟩ := Own_one h2.own
    have kb := k_bslC (pg := pg) (R := den pg) o1 o3 H1
    obtain ⟨out', H', r, h3, h4, h5⟩ := (ho.mono (H' := H1) h2.old).app h2.own (fun id hid he => by have := h2.new id hid; have := ho.nest.lt id he; omega) (fun j t id ht hid he => by have := h2.new id hid; have := ho.lt ht he; omega) (by omega)
    obtain ⟨e', out2, ts2, H2, h6, h7, h8, h9⟩ := l68_3_all (pg := pg) hn hT d (i + 1) out' _ _ H' (by omega) h4 (by simp; omega)
    refine ⟨e', out2, ts2, H2, Eq.trans ?_ h6, h7, h8, ?_⟩
    · rw [l68_3, den_loop]
      simp [l68_3, b68_2, go_nil, go_last, go_past, go_pastR, go_blkN, go_blkR, go_blkE, go_skip, go_exit, go_ret, go_scope, go_seq, go_reg, go_regd, go_opdN, go_opd, go_opdG, grdd_b, grdd_u, stpd_some, find_some, go_block, go_cond, cnd_b, go_opsN, go_ops, go_opsG, grd_b, grd_u, stp_some, fin_some, up_some, cont_some, k_call, k_mv, k_pick, k_bin, k_eqB, k_eqA, k_not, k_neg, k_conv, k_alloc, k_boxA, k_boxI, k_boxB, k_boxN, k_boxBs, k_ldR, k_ldA, k_ldI, k_ldB, k_stA, k_stI, k_stB, ldC_some, stC_some, k_mkfn, k_slc, k_slcA, k_ixA, k_ixBs, k_ixSl, k_fadr, k_fld, k_ext, k_len, k_app, k_mn, k_mx, k_nilck, k_build, k_bsl1, k_bsl2, b_add, b_sub, b_mul, b_eql, b_neq, b_lss, b_leq, b_gtr, b_geq, Dn.setLast, Dn.getLast, evalO, mapO, Dn.get, putE, keepE, TV.one, TV.isAgg, Dn.part, e1, e2, go_denK (c := l68_1) rfl, h1, g0, g3, g4, g5, g6, kb, h3]
    · rw [range_drop hi, List.map_cons]
      simpa [List.append_assoc] using h9

/-- a row, so far -/
def part5 (Q : Nat → Nat → Bool) (j i k : Nat) : Nat → Nat → Bool := fun r c => if r = i ∧ c < k then wstep j Q r c else Q r c

theorem wstep_same (j : Nat) (Q : Nat → Nat → Bool) (i : Nat) : wstep j Q i j = Q i j := by
  unfold wstep; cases Q i j <;> simp
theorem wstep_row (j : Nat) (Q : Nat → Nat → Bool) (k : Nat) : wstep j Q j k = Q j k := by
  unfold wstep; cases Q j k <;> simp

theorem part5_upd (Q : Nat → Nat → Bool) (j i k : Nat) : updT (part5 Q j i k) i k (wstep j Q i k) = part5 Q j i (k + 1) := by
  funext r c
  simp only [updT, part5]
  by_cases h : r = i ∧ c = k
  · obtain ⟨rfl, rfl⟩ := h
    rw [if_pos ⟨rfl, rfl⟩, if_pos ⟨rfl, by omega⟩]
  · rw [if_neg h]
    by_cases h2 : r = i ∧ c < k
    · rw [if_pos h2, if_pos ⟨h2.1, by omega⟩]
    · rw [if_neg h2, if_neg (by omega)]

theorem l68_5_all {pg : Pg} {n : Nat} (hn : n ≤ 5) {out : TV} {ts : List {t : TV // t.one = true}} {Q : Nat → Nat → Bool} {j i : Nat} (hj : j < n) (hi : i < n) {R : {t : TV // t.one = true}} (hR : ts[i]? = some R) : ∀ (d k : Nat) (H : Heap), k + d = n → NestD elB H out ts (tabl n (part5 Q j i k)) →
    ∃ e H', den pg l68_5 [(3, .i .i64 (n : Int)), (4, out), (8, .i .i64 (j : Int)), (9, .i .i64 (i : Int)), (10, R.1), (11, .i .i64 (k : Int))] H = some ⟨.exit 8, e, H'⟩ ∧
      keepE [3, 4, 8, 9] e = [(3, .i .i64 (n : Int)), (4, out), (8, .i .i64 (j : Int)), (9, .i .i64 (i : Int))] ∧ NestD elB H' out ts (tabl n (part5 Q j i n))
  | 0, k, H, h, ho => by
    obtain rfl : k = n := by omega
    have e1 : ¬ ((k : Int) < (k : Int)) := by omega
    refine ⟨[(3, .i .i64 (k : Int)), (4, out), (8, .i .i64 (j : Int)), (9, .i .i64 (i : Int)), (10, R.1), (11, .i .i64 (k : Int)), (55, .b false)], H, ?_, rfl, ho⟩
    rw [l68_5, den_loop]
    simp [b68_4, go_nil, go_last, go_past, go_pastR, go_blkN, go_blkR, go_blkE, go_skip, go_exit, go_ret, go_scope, go_seq, go_reg, go_regd, go_opdN, go_opd, go_opdG, grdd_b, grdd_u, stpd_some, find_some, go_block, go_cond, cnd_b, go_opsN, go_ops, go_opsG, grd_b, grd_u, stp_some, fin_some, up_some, cont_some, k_call, k_mv, k_pick, k_bin, k_eqB, k_eqA, k_not, k_neg, k_conv, k_alloc, k_boxA, k_boxI, k_boxB, k_boxN, k_boxBs, k_ldR, k_ldA, k_ldI, k_ldB, k_stA, k_stI, k_stB, ldC_some, stC_some, k_mkfn, k_slc, k_slcA, k_ixA, k_ixBs, k_ixSl, k_fadr, k_fld, k_ext, k_len, k_app, k_mn, k_mx, k_nilck, k_build, k_bsl1, k_bsl2, b_add, b_sub, b_mul, b_eql, b_neq, b_lss, b_leq, b_gtr, b_geq, Dn.setLast, Dn.getLast, evalO, mapO, Dn.get, putE, keepE, TV.one, TV.isAgg, Dn.part]
  | d + 1, k, H, h, ho => by
    have hk : k < n := by omega
    have e1 : ((k : Int) < (n : Int)) := by omega
    have e2 : wrapR .i64 ((k : Int) + 1) = .i .i64 ((k : Int) + 1) := wrapR_i64 (by omega)
    obtain ⟨p1, t1, ht1, _, _, rd1⟩ := ho.at (pg := pg) (R := den pg) (tabl_get (part5 Q j i k) hi)
    rw [hR] at ht1
    cases ht1
    obtain ⟨q1, a1, a2, a3⟩ := rd1 k _ (trow_get _ i hk)
    obtain ⟨q2, b1, b2, _⟩ := rd1 j _ (trow_get _ i hj)
    obtain ⟨p3, t3, ht3, c1, c2, rd3⟩ := ho.at (pg := pg) (R := den pg) (tabl_get (part5 Q j i k) hj)
    obtain ⟨q3, d1, d2, _⟩ := rd3 k _ (trow_get _ j hk)
    have v1 : part5 Q j i k i k = Q i k := by simp [part5]
    have v2 : part5 Q j i k i j = Q i j := by simp only [part5]; split; exact wstep_same j Q i; rfl
    have v3 : part5 Q j i k j k = Q j k := by simp only [part5]; split; exact wstep_row j Q k; rfl
    rw [v1] at a2
    rw [v2] at b2
    rw [v3] at d2
    obtain ⟨H1, s1, s2, s3⟩ := a3 (wstep j Q i k)
    rw [tabl_set _ hi hk, part5_upd] at s2
    obtain ⟨e, H2, h1, h2, h3⟩ := l68_5_all (pg := pg) hn hj hi hR d (k + 1) H1 (by omega) s2
    have a1' : dkc pg (den pg) (.ixS 1 false) [R.1, .i .i64 (k : Int)] H = some (q1, H) := a1
    have a2' : dkc pg (den pg) (.ld 1 false) [q1] H = some (.b (Q i k), H) := a2
    have b1' : dkc pg (den pg) (.ixS 1 false) [R.1, .i .i64 (j : Int)] H = some (q2, H) := b1
    have b2' : dkc pg (den pg) (.ld 1 false) [q2] H = some (.b (Q i j), H) := b2
    have d1' : dkc pg (den pg) (.ixS 1 false) [t3.1, .i .i64 (k : Int)] H = some (q3, H) := d1
    have d2' : dkc pg (den pg) (.ld 1 false) [q3] H = some (.b (Q j k), H) := d2
    have s1' : dkc pg (den pg) (.st 1) [q1, .b (wstep j Q i k)] H = some (.undef, H1) := s1
    refine ⟨e, H2, Eq.trans ?_ h1, h2, h3⟩
    rw [l68_5, den_loop]
    unfold wstep at s1'
    cases hik : Q i k with
    | true =>
      rw [hik] at s1' a2'
      simp only [Bool.true_or] at s1'
      simp [l68_5, b68_4, go_nil, go_last, go_past, go_pastR, go_blkN, go_blkR, go_blkE, go_skip, go_exit, go_ret, go_scope, go_seq, go_reg, go_regd, go_opdN, go_opd, go_opdG, grdd_b, grdd_u, stpd_some, find_some, go_block, go_cond, cnd_b, go_opsN, go_ops, go_opsG, grd_b, grd_u, stp_some, fin_some, up_some, cont_some, k_call, k_mv, k_pick, k_bin, k_eqB, k_eqA, k_not, k_neg, k_conv, k_alloc, k_boxA, k_boxI, k_boxB, k_boxN, k_boxBs, k_ldR, k_ldA, k_ldI, k_ldB, k_stA, k_stI, k_stB, ldC_some, stC_some, k_mkfn, k_slc, k_slcA, k_ixA, k_ixBs, k_ixSl, k_fadr, k_fld, k_ext, k_len, k_app, k_mn, k_mx, k_nilck, k_build, k_bsl1, k_bsl2, b_add, b_sub, b_mul, b_eql, b_neq, b_lss, b_leq, b_gtr, b_geq, Dn.setLast, Dn.getLast, evalO, mapO, Dn.get, putE, keepE, TV.one, TV.isAgg, Dn.part, e1, e2, a1', a2', s1']
    | false =>
      cases hij : Q i j with
      | true =>
        rw [hik, hij] at s1'
        rw [hik] at a2'
        rw [hij] at b2'
        simp only [Bool.false_or, Bool.true_and] at s1'
        simp [l68_5, b68_4, go_nil, go_last, go_past, go_pastR, go_blkN, go_blkR, go_blkE, go_skip, go_exit, go_ret, go_scope, go_seq, go_reg, go_regd, go_opdN, go_opd, go_opdG, grdd_b, grdd_u, stpd_some, find_some, go_block, go_cond, cnd_b, go_opsN, go_ops, go_opsG, grd_b, grd_u, stp_some, fin_some, up_some, cont_some, k_call, k_mv, k_pick, k_bin, k_eqB, k_eqA, k_not, k_neg, k_conv, k_alloc, k_boxA, k_boxI, k_boxB, k_boxN, k_boxBs, k_ldR, k_ldA, k_ldI, k_ldB, k_stA, k_stI, k_stB, ldC_some, stC_some, k_mkfn, k_slc, k_slcA, k_ixA, k_ixBs, k_ixSl, k_fadr, k_fld, k_ext, k_len, k_app, k_mn, k_mx, k_nilck, k_build, k_bsl1, k_bsl2, b_add, b_sub, b_mul, b_eql, b_neq, b_lss, b_leq, b_gtr, b_geq, Dn.setLast, Dn.getLast, evalO, mapO, Dn.get, putE, keepE, TV.one, TV.isAgg, Dn.part, e1, e2, a1', a2', b1', b2', c1, c2, d1', d2', s1']
      | false =>
        rw [hik, hij] at s1'
        rw [hik] at a2'
        rw [hij] at b2'
        simp only [Bool.false_or, Bool.false_and] at s1'
        simp [l68_5, b68_4, go_nil, go_last, go_past, go_pastR, go_blkN, go_blkR, go_blkE, go_skip, go_exit, go_ret, go_scope, go_seq, go_reg, go_regd, go_opdN, go_opd, go_opdG, grdd_b, grdd_u, stpd_some, find_some, go_block, go_cond, cnd_b, go_opsN, go_ops, go_opsG, grd_b, grd_u, stp_some, fin_some, up_some, cont_some, k_call, k_mv, k_pick, k_bin, k_eqB, k_eqA, k_not, k_neg, k_conv, k_alloc, k_boxA, k_boxI, k_boxB, k_boxN, k_boxBs, k_ldR, k_ldA, k_ldI, k_ldB, k_stA, k_stI, k_stB, ldC_some, stC_some, k_mkfn, k_slc, k_slcA, k_ixA, k_ixBs, k_ixSl, k_fadr, k_fld, k_ext, k_len, k_app, k_mn, k_mx, k_nilck, k_build, k_bsl1, k_bsl2, b_add, b_sub, b_mul, b_eql, b_neq, b_lss, b_leq, b_gtr, b_geq, Dn.setLast, Dn.getLast, evalO, mapO, Dn.get, putE, keepE, TV.one, TV.isAgg, Dn.part, e1, e2, a1', a2', b1', b2', s1']

def part7 (Q : Nat → Nat → Bool) (j i : Nat) : Nat → Nat → Bool := fun r c => if r < i then wstep j Q r c else Q r c

theorem part7_step (n : Nat) (Q : Nat → Nat → Bool) (j i : Nat) : tabl n (part5 (part7 Q j i) j i n) = tabl n (part7 Q j (i + 1)) := by
  apply tabl_congr
  intro r c hr hc
  have hjk : ∀ k, part7 Q j i j k = Q j k := by
    intro k
    unfold part7
    split
    · exact wstep_row j Q k
    · rfl
  simp only [part5, part7]
  by_cases h : r = i
  · subst h
    rw [if_pos ⟨rfl, hc⟩, if_pos (by omega)]
    have h1 : ∀ k, part7 Q j r r k = Q r k := fun k => by unfold part7; rw [if_neg (by omega)]
    show (part7 Q j r r c || (part7 Q j r r j && part7 Q j r j c)) = _
    rw [h1, h1, hjk]
    rfl
  · rw [if_neg (by omega)]
    by_cases h2 : r < i
    · rw [if_pos h2, if_pos (by omega)]
    · rw [if_neg h2, if_neg (by omega)]

theorem l68_7_all {pg : Pg} {n : Nat} (hn : n ≤ 5) {out : TV} {ts : List {t : TV // t.one = true}} {Q : Nat → Nat → Bool} {j : Nat} (hj : j < n) : ∀ (d i : Nat) (H : Heap), i + d = n → NestD elB H out ts (tabl n (part7 Q j i)) →
    ∃ e H', den pg l68_7 [(3, .i .i64 (n : Int)), (4, out), (8, .i .i64 (j : Int)), (9, .i .i64 (i : Int))] H = some ⟨.exit 6, e, H'⟩ ∧
      keepE [3, 4, 8] e = [(3, .i .i64 (n : Int)), (4, out), (8, .i .i64 (j : Int))] ∧ NestD elB H' out ts (tabl n (wstep j Q))
  | 0, i, H, h, ho => by
    obtain rfl : i = n := by omega
    refine ⟨[(3, .i .i64 (i : Int)), (4, out), (8, .i .i64 (j : Int)), (9, .i .i64 (i : Int)), (46, .b false)], H, ?_, rfl, ?_⟩
    · rw [l68_7, den_loop]
      simp [b68_6, go_nil, go_last, go_past, go_pastR, go_blkN, go_blkR, go_blkE, go_skip, go_exit, go_ret, go_scope, go_seq, go_reg, go_regd, go_opdN, go_opd, go_opdG, grdd_b, grdd_u, stpd_some, find_some, go_block, go_cond, cnd_b, go_opsN, go_ops, go_opsG, grd_b, grd_u, stp_some, fin_some, up_some, cont_some, k_call, k_mv, k_pick, k_bin, k_eqB, k_eqA, k_not, k_neg, k_conv, k_alloc, k_boxA, k_boxI, k_boxB, k_boxN, k_boxBs, k_ldR, k_ldA, k_ldI, k_ldB, k_stA, k_stI, k_stB, ldC_some, stC_some, k_mkfn, k_slc, k_slcA, k_ixA, k_ixBs, k_ixSl, k_fadr, k_fld, k_ext, k_len, k_app, k_mn, k_mx, k_nilck, k_build, k_bsl1, k_bsl2, b_add, b_sub, b_mul, b_eql, b_neq, b_lss, b_leq, b_gtr, b_geq, Dn.setLast, Dn.getLast, evalO, mapO, Dn.get, putE, keepE, TV.one, TV.isAgg, Dn.part]
    · rw [show tabl i (wstep j Q) = tabl i (part7 Q j i) from tabl_congr fun r c hr _ => by unfold part7; rw [if_pos hr]]
      exact ho
  | d + 1, i, H, h, ho => by
    have hi : i < n := by omega
    have e1 : ((i : Int) < (n : Int)) := by omega
    have e2 : wrapR .i64 ((i : Int) + 1) = .i .i64 ((i : Int) + 1) := wrapR_i64 (by omega)
    obtain ⟨p, R, hR, c1, c2, _⟩ := ho.at (pg := pg) (R := den pg) (tabl_get (part7 Q j i) hi)
    have ho' : NestD elB H out ts (tabl n (part5 (part7 Q j i) j i 0)) := by
      rw [show tabl n (part5 (part7 Q j i) j i 0) = tabl n (part7 Q j i) from tabl_congr fun r c _ _ => by unfold part5; rw [if_neg (by omega)]]
      exact ho
    obtain ⟨e, H1, h1, h2, h3⟩ := l68_5_all (pg := pg) hn hj hi hR n 0 H (by omega) ho'
    simp only [Int.natCast_zero] at h1
    rw [part7_step] at h3
    have g3 := keep_get h2 (s := 3) (by simp) rfl
    have g4 := keep_get h2 (s := 4) (by simp) rfl
    have g8 := keep_get h2 (s := 8) (by simp) rfl
    have g9 := keep_get h2 (s := 9) (by simp) rfl
    obtain ⟨e', H2, h4, h5, h6⟩ := l68_7_all (pg := pg) hn hj d (i + 1) H1 (by omega) h3
    refine ⟨e', H2, Eq.trans ?_ h4, h5, h6⟩
    rw [l68_7, den_loop]
    simp [l68_7, b68_6, go_nil, go_last, go_past, go_pastR, go_blkN, go_blkR, go_blkE, go_skip, go_exit, go_ret, go_scope, go_seq, go_reg, go_regd, go_opdN, go_opd, go_opdG, grdd_b, grdd_u, stpd_some, find_some, go_block, go_cond, cnd_b, go_opsN, go_ops, go_opsG, grd_b, grd_u, stp_some, fin_some, up_some, cont_some, k_call, k_mv, k_pick, k_bin, k_eqB, k_eqA, k_not, k_neg, k_conv, k_alloc, k_boxA, k_boxI, k_boxB, k_boxN, k_boxBs, k_ldR, k_ldA, k_ldI, k_ldB, k_stA, k_stI, k_stB, ldC_some, stC_some, k_mkfn, k_slc, k_slcA, k_ixA, k_ixBs, k_ixSl, k_fadr, k_fld, k_ext, k_len, k_app, k_mn, k_mx, k_nilck, k_build, k_bsl1, k_bsl2, b_add, b_sub, b_mul, b_eql, b_neq, b_lss, b_leq, b_gtr, b_geq, Dn.setLast, Dn.getLast, evalO, mapO, Dn.get, putE, keepE, TV.one, TV.isAgg, Dn.part, e1, e2, c1, c2, go_denK (c := l68_5) rfl, h1, g3, g4, g8, g9]

theorem l68_9_all {pg : Pg} {n : Nat} (hn : n ≤ 5) {out : TV} {ts : List {t : TV // t.one = true}} {Q : Nat → Nat → Bool} : ∀ (d j : Nat) (H : Heap), j + d = n → NestD elB H out ts (tabl n (wall Q j)) →
    ∃ e H', den pg l68_9 [(3, .i .i64 (n : Int)), (4, out), (8, .i .i64 (j : Int))] H = some ⟨.exit 4, e, H'⟩ ∧ Dn.get e 4 = some out ∧ NestD elB H' out ts (tabl n (wall Q n))
  | 0, j, H, h, ho => by
    obtain rfl : j = n := by omega
    refine ⟨[(3, .i .i64 (j : Int)), (4, out), (8, .i .i64 (j : Int)), (41, .b false)], H, ?_, rfl, ho⟩
    rw [l68_9, den_loop]
    simp [b68_8, go_nil, go_last, go_past, go_pastR, go_blkN, go_blkR, go_blkE, go_skip, go_exit, go_ret, go_scope, go_seq, go_reg, go_regd, go_opdN, go_opd, go_opdG, grdd_b, grdd_u, stpd_some, find_some, go_block, go_cond, cnd_b, go_opsN, go_ops, go_opsG, grd_b, grd_u, stp_some, fin_some, up_some, cont_some, k_call, k_mv, k_pick, k_bin, k_eqB, k_eqA, k_not, k_neg, k_conv, k_alloc, k_boxA, k_boxI, k_boxB, k_boxN, k_boxBs, k_ldR, k_ldA, k_ldI, k_ldB, k_stA, k_stI, k_stB, ldC_some, stC_some, k_mkfn, k_slc, k_slcA, k_ixA, k_ixBs, k_ixSl, k_fadr, k_fld, k_ext, k_len, k_app, k_mn, k_mx, k_nilck, k_build, k_bsl1, k_bsl2, b_add, b_sub, b_mul, b_eql, b_neq, b_lss, b_leq, b_gtr, b_geq, Dn.setLast, Dn.getLast, evalO, mapO, Dn.get, putE, keepE, TV.one, TV.isAgg, Dn.part]
  | d + 1, j, H, h, ho => by
    have hj : j < n := by omega
    have e1 : ((j : Int) < (n : Int)) := by omega
    have e2 : wrapR .i64 ((j : Int) + 1) = .i .i64 ((j : Int) + 1) := wrapR_i64 (by omega)
    have ho' : NestD elB H out ts (tabl n (part7 (wall Q j) j 0)) := by
      rw [show tabl n (part7 (wall Q j) j 0) = tabl n (wall Q j) from tabl_congr fun r c _ _ => by unfold part7; rw [if_neg (by omega)]]
      exact ho
    obtain ⟨e, H1, h1, h2, h3⟩ := l68_7_all (pg := pg) hn hj n 0 H (by omega) ho'
    simp only [Int.natCast_zero] at h1
    have g3 := keep_get h2 (s := 3) (by simp) rfl
    have g4 := keep_get h2 (s := 4) (by simp) rfl
    have g8 := keep_get h2 (s := 8) (by simp) rfl
    obtain ⟨e', H2, h4, h5, h6⟩ := l68_9_all (pg := pg) hn (Q := Q) d (j + 1) H1 (by omega) h3
    refine ⟨e', H2, Eq.trans ?_ h4, h5, h6⟩
    rw [l68_9, den_loop]
    simp [l68_9, b68_8, go_nil, go_last, go_past, go_pastR, go_blkN, go_blkR, go_blkE, go_skip, go_exit, go_ret, go_scope, go_seq, go_reg, go_regd, go_opdN, go_opd, go_opdG, grdd_b, grdd_u, stpd_some, find_some, go_block, go_cond, cnd_b, go_opsN, go_ops, go_opsG, grd_b, grd_u, stp_some, fin_some, up_some, cont_some, k_call, k_mv, k_pick, k_bin, k_eqB, k_eqA, k_not, k_neg, k_conv, k_alloc, k_boxA, k_boxI, k_boxB, k_boxN, k_boxBs, k_ldR, k_ldA, k_ldI, k_ldB, k_stA, k_stI, k_stB, ldC_some, stC_some, k_mkfn, k_slc, k_slcA, k_ixA, k_ixBs, k_ixSl, k_fadr, k_fld, k_ext, k_len, k_app, k_mn, k_mx, k_nilck, k_build, k_bsl1, k_bsl2, b_add, b_sub, b_mul, b_eql, b_neq, b_lss, b_leq, b_gtr, b_geq, Dn.setLast, Dn.getLast, evalO, mapO, Dn.get, putE, keepE, TV.one, TV.isAgg, Dn.part, e1, e2, go_denK (c := l68_7) rfl, h1, g3, g4, g8]

/-- one leads to another one directly, by a table -/
def tE (n : Nat) (P : Nat → Nat → Int) (i k : Nat) : Bool := decide (i < n) && decide (k < n) && decide (0 < P i k)

theorem fn68 {pg : Pg} (hF : Free pg) {n : Nat} (hn : n ≤ 5) {c : Bool} {T : TV} {P : Nat → Nat → Int} (hT : ∀ H, (elR c).View H T (tabl n P)) : PFn pg 68 [T] ((elRw elB false).lt false (tabl n (wall (tE n P) n))) := by
  have hlen := (hT []).lenK
  rw [tabl_len] at hlen
  obtain ⟨e, out, ts, H1, h1, g3, g4, h2⟩ := l68_3_all (pg := pg) hn hT n 0 .nilsl [] [] [] (by omega) (NestD.nil _) rfl
  simp only [Int.natCast_zero] at h1
  rw [List.nil_append, show ((List.range n).drop 0).map (fun i => trow n (fun i k => decide (0 < P i k)) i) = tabl n (fun i k => decide (0 < P i k)) from rfl,
    show tabl n (fun i k => decide (0 < P i k)) = tabl n (wall (tE n P) 0) from tabl_congr fun i k hi hk => by simp [wall, tE, hi, hk]] at h2
  obtain ⟨e', H2, h3, k4, h4⟩ := l68_9_all (pg := pg) hn (Q := tE n P) n 0 H1 (by omega) h2
  simp only [Int.natCast_zero] at h3
  refine .of_go (x := .ret) (e := [(2, out)]) (H' := H2) (vs := [out]) (hF.S _ _ (by decide)) (d := d68) (by rw [hF.F]; rfl) rfl ?_ (.inl rfl) rfl (h4.nest.fin elB_flat 5)
  simp [d68, c68, zipE, go_nil, go_last, go_past, go_pastR, go_blkN, go_blkR, go_blkE, go_skip, go_exit, go_ret, go_scope, go_seq, go_reg, go_regd, go_opdN, go_opd, go_opdG, grdd_b, grdd_u, stpd_some, find_some, go_block, go_cond, cnd_b, go_opsN, go_ops, go_opsG, grd_b, grd_u, stp_some, fin_some, up_some, cont_some, k_call, k_mv, k_pick, k_bin, k_eqB, k_eqA, k_not, k_neg, k_conv, k_alloc, k_boxA, k_boxI, k_boxB, k_boxN, k_boxBs, k_ldR, k_ldA, k_ldI, k_ldB, k_stA, k_stI, k_stB, ldC_some, stC_some, k_mkfn, k_slc, k_slcA, k_ixA, k_ixBs, k_ixSl, k_fadr, k_fld, k_ext, k_len, k_app, k_mn, k_mx, k_nilck, k_build, k_bsl1, k_bsl2, b_add, b_sub, b_mul, b_eql, b_neq, b_lss, b_leq, b_gtr, b_geq, Dn.setLast, Dn.getLast, evalO, mapO, Dn.get, putE, keepE, TV.one, TV.isAgg, Dn.part, hlen, go_denK (c := l68_3) rfl, h1, g3, g4, go_denK (c := l68_9) rfl, h3, k4]

theorem call68 {pg : Pg} (hF : Free pg) {n : Nat} (hn : n ≤ 5) (b c : Bool) (P : Nat → Nat → Int) (H : Heap) : callRun pg (den pg) (.pu []) [.fn 68 [] [], (elR c).lt b (tabl n P)] H = some ((elRw elB false).lt false (tabl n (wall (tE n P) n)), H) :=
  PFn.call (fn68 hF hn (c := true) (T := (elR true).lt true (tabl n P)) fun H => El.lt_view _ _ _) (args := [(elR c).lt b (tabl n P)]) (by simp [snapArgs, snap_rows b c H 6])

end Go.Proofs.Tryd.Dn

/-
  The reference: whether there is a ring by a table, and whether a list is one.
-/

namespace Go.Proofs.Tryd.Dn
open Go.Dn

theorem ixW {α : Type} {E : El α} {pg : Pg} {R : Rec} {H : Heap} {t : TV} {b : Bool} {ls : List (List α)} (h : (elRw E b).View H t ls) {i : Nat} {l : List α} (hx : ls[i]? = some l) : ∃ p, dkc pg R (.ixS 1 false) [t, .i .i64 (i : Int)] H = some (p, H) ∧ dkc pg R (.ld 1 false) [p] H = some (E.lt b l, H) := by
  obtain ⟨p, h1, h2, _⟩ := h.ix (pg := pg) (R := R) hx .i64
  exact ⟨p, h1, h2.ld⟩

theorem ixB {pg : Pg} {R : Rec} {H : Heap} {t : TV} {l : List Bool} (h : elB.View H t l) {i : Nat} {x : Bool} (hx : l[i]? = some x) : ∃ p, dkc pg R (.ixS 1 false) [t, .i .i64 (i : Int)] H = some (p, H) ∧ dkc pg R (.ld 1 false) [p] H = some (.b x, H) := by
  obtain ⟨p, h1, h2, _⟩ := h.ix (pg := pg) (R := R) hx .i64
  exact ⟨p, h1, h2.ld⟩

/-- a pair of a ring, by a table and its closure -/
def PairT (n : Nat) (P : Nat → Nat → Int) (i k : Nat) : Prop := i < n ∧ k < n ∧ i ≠ k ∧ P i k = 2 ∧ wall (tE n P) n k i = true

theorem l27_1_all {pg : Pg} {n : Nat} (hn : n ≤ 5) {c : Bool} {T W : TV} {P : Nat → Nat → Int} (hT : ∀ H, (elR c).View H T (tabl n P)) (hW : ∀ H, (elRw elB false).View H W (tabl n (wall (tE n P) n))) {i : Nat} (hi : i < n) {H : Heap} : ∀ (d k : Nat), k + d = n →
    (den pg l27_1 [(0, T), (3, W), (4, .i .i64 (i : Int)), (5, .i .i64 (k : Int))] H = some ⟨.ret, [(2, .b true)], H⟩ ∧ ∃ k', PairT n P i k') ∨
    (∃ e, den pg l27_1 [(0, T), (3, W), (4, .i .i64 (i : Int)), (5, .i .i64 (k : Int))] H = some ⟨.exit 2, e, H⟩ ∧ keepE [0, 3, 4] e = [(0, T), (3, W), (4, .i .i64 (i : Int))] ∧ ∀ k', k ≤ k' → ¬ PairT n P i k')
  | 0, k, h => by
    have e1 : ¬ ((k : Int) < (n : Int)) := by omega
    have hlen := (hT H).lenK
    rw [tabl_len] at hlen
    refine .inr ⟨[(0, T), (3, W), (4, .i .i64 (i : Int)), (5, .i .i64 (k : Int)), (17, .b false)], ?_, rfl, fun k' hk' hp => by have := hp.2.1; omega⟩
    rw [l27_1, den_loop]
    simp [b27_0, go_nil, go_last, go_past, go_pastR, go_blkN, go_blkR, go_blkE, go_skip, go_exit, go_ret, go_scope, go_seq, go_reg, go_regd, go_opdN, go_opd, go_opdG, grdd_b, grdd_u, stpd_some, find_some, go_block, go_cond, cnd_b, go_opsN, go_ops, go_opsG, grd_b, grd_u, stp_some, fin_some, up_some, cont_some, k_call, k_mv, k_pick, k_bin, k_eqB, k_eqA, k_not, k_neg, k_conv, k_alloc, k_boxA, k_boxI, k_boxB, k_boxN, k_boxBs, k_ldR, k_ldA, k_ldI, k_ldB, k_stA, k_stI, k_stB, ldC_some, stC_some, k_mkfn, k_slc, k_slcA, k_ixA, k_ixBs, k_ixSl, k_fadr, k_fld, k_ext, k_len, k_app, k_mn, k_mx, k_nilck, k_build, k_bsl1, k_bsl2, b_add, b_sub, b_mul, b_eql, b_neq, b_lss, b_leq, b_gtr, b_geq, Dn.setLast, Dn.getLast, evalO, mapO, Dn.get, putE, keepE, TV.one, TV.isAgg, Dn.part, hlen, e1]
  | d + 1, k, h => by
    have hk : k < n := by omega
    have e1 : ((k : Int) < (n : Int)) := by omega
    have e2 : wrapR .i64 ((k : Int) + 1) = .i .i64 ((k : Int) + 1) := wrapR_i64 (by omega)
    have hlen := (hT H).lenK
    rw [tabl_len] at hlen
    obtain ⟨p, hp, hv⟩ := ixR (pg := pg) (R := den pg) (hT H) (tabl_get P hi)
    obtain ⟨q, hq, hw⟩ := ixI (pg := pg) (R := den pg) (El.lt_view c (trow n P i) H : elI.View H _ _) (trow_get P i hk)
    obtain ⟨p', hp', hv'⟩ := ixW (pg := pg) (R := den pg) (hW H) (tabl_get (wall (tE n P) n) hk)
    obtain ⟨q', hq', hw'⟩ := ixB (pg := pg) (R := den pg) (El.lt_view false (trow n (wall (tE n P) n) k) H : elB.View H _ _) (trow_get (wall (tE n P) n) k hi)
    by_cases hP : PairT n P i k
    · refine .inl ⟨?_, k, hP⟩
      obtain ⟨_, _, hne, h2, h3⟩ := hP
      have hne' : ((i : Int) != (k : Int)) = true := by simp; omega
      rw [h3] at hw'
      rw [l27_1, den_loop]
      simp [b27_0, go_nil, go_last, go_past, go_pastR, go_blkN, go_blkR, go_blkE, go_skip, go_exit, go_ret, go_scope, go_seq, go_reg, go_regd, go_opdN, go_opd, go_opdG, grdd_b, grdd_u, stpd_some, find_some, go_block, go_cond, cnd_b, go_opsN, go_ops, go_opsG, grd_b, grd_u, stp_some, fin_some, up_some, cont_some, k_call, k_mv, k_pick, k_bin, k_eqB, k_eqA, k_not, k_neg, k_conv, k_alloc, k_boxA, k_boxI, k_boxB, k_boxN, k_boxBs, k_ldR, k_ldA, k_ldI, k_ldB, k_stA, k_stI, k_stB, ldC_some, stC_some, k_mkfn, k_slc, k_slcA, k_ixA, k_ixBs, k_ixSl, k_fadr, k_fld, k_ext, k_len, k_app, k_mn, k_mx, k_nilck, k_build, k_bsl1, k_bsl2, b_add, b_sub, b_mul, b_eql, b_neq, b_lss, b_leq, b_gtr, b_geq, Dn.setLast, Dn.getLast, evalO, mapO, Dn.get, putE, keepE, TV.one, TV.isAgg, Dn.part, hlen, e1, hne', hp, hv, hq, hw, h2, hp', hv', hq', hw']
    · have hstep : den pg l27_1 [(0, T), (3, W), (4, .i .i64 (i : Int)), (5, .i .i64 (k : Int))] H = den pg l27_1 [(0, T), (3, W), (4, .i .i64 (i : Int)), (5, .i .i64 ((k + 1 : Nat) : Int))] H := by
        rw [l27_1, den_loop]
        by_cases hne : i = k
        · subst hne
          simp [l27_1, b27_0, go_nil, go_last, go_past, go_pastR, go_blkN, go_blkR, go_blkE, go_skip, go_exit, go_ret, go_scope, go_seq, go_reg, go_regd, go_opdN, go_opd, go_opdG, grdd_b, grdd_u, stpd_some, find_some, go_block, go_cond, cnd_b, go_opsN, go_ops, go_opsG, grd_b, grd_u, stp_some, fin_some, up_some, cont_some, k_call, k_mv, k_pick, k_bin, k_eqB, k_eqA, k_not, k_neg, k_conv, k_alloc, k_boxA, k_boxI, k_boxB, k_boxN, k_boxBs, k_ldR, k_ldA, k_ldI, k_ldB, k_stA, k_stI, k_stB, ldC_some, stC_some, k_mkfn, k_slc, k_slcA, k_ixA, k_ixBs, k_ixSl, k_fadr, k_fld, k_ext, k_len, k_app, k_mn, k_mx, k_nilck, k_build, k_bsl1, k_bsl2, b_add, b_sub, b_mul, b_eql, b_neq, b_lss, b_leq, b_gtr, b_geq, Dn.setLast, Dn.getLast, evalO, mapO, Dn.get, putE, keepE, TV.one, TV.isAgg, Dn.part, hlen, e1, e2]
        · have hne' : ((i : Int) != (k : Int)) = true := by simp; omega
          by_cases h2 : P i k = 2
          · have h3 : wall (tE n P) n k i = false := by
              rw [Bool.eq_false_iff]; intro h3
              exact hP ⟨hi, hk, hne, h2, h3⟩
            rw [h3] at hw'
            simp [l27_1, b27_0, go_nil, go_last, go_past, go_pastR, go_blkN, go_blkR, go_blkE, go_skip, go_exit, go_ret, go_scope, go_seq, go_reg, go_regd, go_opdN, go_opd, go_opdG, grdd_b, grdd_u, stpd_some, find_some, go_block, go_cond, cnd_b, go_opsN, go_ops, go_opsG, grd_b, grd_u, stp_some, fin_some, up_some, cont_some, k_call, k_mv, k_pick, k_bin, k_eqB, k_eqA, k_not, k_neg, k_conv, k_alloc, k_boxA, k_boxI, k_boxB, k_boxN, k_boxBs, k_ldR, k_ldA, k_ldI, k_ldB, k_stA, k_stI, k_stB, ldC_some, stC_some, k_mkfn, k_slc, k_slcA, k_ixA, k_ixBs, k_ixSl, k_fadr, k_fld, k_ext, k_len, k_app, k_mn, k_mx, k_nilck, k_build, k_bsl1, k_bsl2, b_add, b_sub, b_mul, b_eql, b_neq, b_lss, b_leq, b_gtr, b_geq, Dn.setLast, Dn.getLast, evalO, mapO, Dn.get, putE, keepE, TV.one, TV.isAgg, Dn.part, hlen, e1, e2, hne', hp, hv, hq, hw, h2, hp', hv', hq', hw']
          · have h2' : (P i k == 2) = false := by simpa using h2
            simp [l27_1, b27_0, go_nil, go_last, go_past, go_pastR, go_blkN, go_blkR, go_blkE, go_skip, go_exit, go_ret, go_scope, go_seq, go_reg, go_regd, go_opdN, go_opd, go_opdG, grdd_b, grdd_u, stpd_some, find_some, go_block, go_cond, cnd_b, go_opsN, go_ops, go_opsG, grd_b, grd_u, stp_some, fin_some, up_some, cont_some, k_call, k_mv, k_pick, k_bin, k_eqB, k_eqA, k_not, k_neg, k_conv, k_alloc, k_boxA, k_boxI, k_boxB, k_boxN, k_boxBs, k_ldR, k_ldA, k_ldI, k_ldB, k_stA, k_stI, k_stB, ldC_some, stC_some, k_mkfn, k_slc, k_slcA, k_ixA, k_ixBs, k_ixSl, k_fadr, k_fld, k_ext, k_len, k_app, k_mn, k_mx, k_nilck, k_build, k_bsl1, k_bsl2, b_add, b_sub, b_mul, b_eql, b_neq, b_lss, b_leq, b_gtr, b_geq, Dn.setLast, Dn.getLast, evalO, mapO, Dn.get, putE, keepE, TV.one, TV.isAgg, Dn.part, hlen, e1, e2, hne', hp, hv, hq, hw, h2']
      rw [hstep]
      rcases l27_1_all (pg := pg) hn hT hW hi (H := H) d (k + 1) (by omega) with ih | ⟨e, h1, h2, h3⟩
      · exact .inl ih
      · refine .inr ⟨e, h1, h2, fun k' hk' => ?_⟩
        by_cases he : k' = k
        · subst he; exact hP
        · exact h3 k' (by omega)

theorem l27_3_all {pg : Pg} {n : Nat} (hn : n ≤ 5) {c : Bool} {T W : TV} {P : Nat → Nat → Int} (hT : ∀ H, (elR c).View H T (tabl n P)) (hW : ∀ H, (elRw elB false).View H W (tabl n (wall (tE n P) n))) {H : Heap} : ∀ (d i : Nat), i + d = n →
    (den pg l27_3 [(0, T), (3, W), (4, .i .i64 (i : Int))] H = some ⟨.ret, [(2, .b true)], H⟩ ∧ ∃ i' k', PairT n P i' k') ∨
    (∃ e, den pg l27_3 [(0, T), (3, W), (4, .i .i64 (i : Int))] H = some ⟨.exit 0, e, H⟩ ∧ ∀ i' k', i ≤ i' → ¬ PairT n P i' k')
  | 0, i, h => by
    have e1 : ¬ ((i : Int) < (n : Int)) := by omega
    have hlen := (hT H).lenK
    rw [tabl_len] at hlen
    refine .inr ⟨[(0, T), (3, W), (4, .i .i64 (i : Int)), (11, .b false)], ?_, fun i' k' hi' hp => by have := hp.1; omega⟩
    rw [l27_3, den_loop]
    simp [b27_2, go_nil, go_last, go_past, go_pastR, go_blkN, go_blkR, go_blkE, go_skip, go_exit, go_ret, go_scope, go_seq, go_reg, go_regd, go_opdN, go_opd, go_opdG, grdd_b, grdd_u, stpd_some, find_some, go_block, go_cond, cnd_b, go_opsN, go_ops, go_opsG, grd_b, grd_u, stp_some, fin_some, up_some, cont_some, k_call, k_mv, k_pick, k_bin, k_eqB, k_eqA, k_not, k_neg, k_conv, k_alloc, k_boxA, k_boxI, k_boxB, k_boxN, k_boxBs, k_ldR, k_ldA, k_ldI, k_ldB, k_stA, k_stI, k_stB, ldC_some, stC_some, k_mkfn, k_slc, k_slcA, k_ixA, k_ixBs, k_ixSl, k_fadr, k_fld, k_ext, k_len, k_app, k_mn, k_mx, k_nilck, k_build, k_bsl1, k_bsl2, b_add, b_sub, b_mul, b_eql, b_neq, b_lss, b_leq, b_gtr, b_geq, Dn.setLast, Dn.getLast, evalO, mapO, Dn.get, putE, keepE, TV.one, TV.isAgg, Dn.part, hlen, e1]
  | d + 1, i, h => by
    have hi : i < n := by omega
    have e1 : ((i : Int) < (n : Int)) := by omega
    have e2 : wrapR .i64 ((i : Int) + 1) = .i .i64 ((i : Int) + 1) := wrapR_i64 (by omega)
    have hlen := (hT H).lenK
    rw [tabl_len] at hlen
    have hin := l27_1_all (pg := pg) hn hT hW hi (H := H) n 0 (by omega)
    simp only [Int.natCast_zero] at hin
    rcases hin with ⟨h1, k', h2⟩ | ⟨e, h1, h2, h3⟩
    · refine .inl ⟨?_, i, k', h2⟩
      rw [l27_3, den_loop]
      simp [b27_2, go_nil, go_last, go_past, go_pastR, go_blkN, go_blkR, go_blkE, go_skip, go_exit, go_ret, go_scope, go_seq, go_reg, go_regd, go_opdN, go_opd, go_opdG, grdd_b, grdd_u, stpd_some, find_some, go_block, go_cond, cnd_b, go_opsN, go_ops, go_opsG, grd_b, grd_u, stp_some, fin_some, up_some, cont_some, k_call, k_mv, k_pick, k_bin, k_eqB, k_eqA, k_not, k_neg, k_conv, k_alloc, k_boxA, k_boxI, k_boxB, k_boxN, k_boxBs, k_ldR, k_ldA, k_ldI, k_ldB, k_stA, k_stI, k_stB, ldC_some, stC_some, k_mkfn, k_slc, k_slcA, k_ixA, k_ixBs, k_ixSl, k_fadr, k_fld, k_ext, k_len, k_app, k_mn, k_mx, k_nilck, k_build, k_bsl1, k_bsl2, b_add, b_sub, b_mul, b_eql, b_neq, b_lss, b_leq, b_gtr, b_geq, Dn.setLast, Dn.getLast, evalO, mapO, Dn.get, putE, keepE, TV.one, TV.isAgg, Dn.part, hlen, e1, go_denK (c := l27_1) rfl, h1]
    · have g0 := keep_get h2 (s := 0) (by simp) rfl
      have g3 := keep_get h2 (s := 3) (by simp) rfl
      have g4 := keep_get h2 (s := 4) (by simp) rfl
      have hstep : den pg l27_3 [(0, T), (3, W), (4, .i .i64 (i : Int))] H = den pg l27_3 [(0, T), (3, W), (4, .i .i64 ((i + 1 : Nat) : Int))] H := by
        rw [l27_3, den_loop]
        simp [l27_3, b27_2, go_nil, go_last, go_past, go_pastR, go_blkN, go_blkR, go_blkE, go_skip, go_exit, go_ret, go_scope, go_seq, go_reg, go_regd, go_opdN, go_opd, go_opdG, grdd_b, grdd_u, stpd_some, find_some, go_block, go_cond, cnd_b, go_opsN, go_ops, go_opsG, grd_b, grd_u, stp_some, fin_some, up_some, cont_some, k_call, k_mv, k_pick, k_bin, k_eqB, k_eqA, k_not, k_neg, k_conv, k_alloc, k_boxA, k_boxI, k_boxB, k_boxN, k_boxBs, k_ldR, k_ldA, k_ldI, k_ldB, k_stA, k_stI, k_stB, ldC_some, stC_some, k_mkfn, k_slc, k_slcA, k_ixA, k_ixBs, k_ixSl, k_fadr, k_fld, k_ext, k_len, k_app, k_mn, k_mx, k_nilck, k_build, k_bsl1, k_bsl2, b_add, b_sub, b_mul, b_eql, b_neq, b_lss, b_leq, b_gtr, b_geq, Dn.setLast, Dn.getLast, evalO, mapO, Dn.get, putE, keepE, TV.one, TV.isAgg, Dn.part, hlen, e1, e2, go_denK (c := l27_1) rfl, h1, g0, g3, g4]
      rw [hstep]
      rcases l27_3_all (pg := pg) hn hT hW (H := H) d (i + 1) (by omega) with ih | ⟨e', k1, k2⟩
      · exact .inl ih
      · refine .inr ⟨e', k1, fun i' k' hi' => ?_⟩
        by_cases he : i' = i
        · subst he; exact h3 k' (Nat.zero_le _)
        · exact k2 i' k' (by omega)

theorem call27 {pg : Pg} (hF : Free pg) {n : Nat} (hn : n ≤ 5) (b c : Bool) (P : Nat → Nat → Int) : ∃ r : Bool, (∀ H, callRun pg (den pg) (.pu []) [.fn 27 [] [], (elR c).lt b (tabl n P)] H = some (.b r, H)) ∧ (r = true ↔ ∃ i k, PairT n P i k) := by
  have hd : pg.F 27 = some d27 := by rw [hF.F]; rfl
  have c68 := call68 hF hn true true P
  rcases l27_3_all (pg := pg) hn (c := true) (T := (elR true).lt true (tabl n P)) (P := P) (fun H => El.lt_view _ _ _) (fun H => El.lt_view false _ _) (H := []) n 0 (by omega) with ⟨h1, h2⟩ | ⟨e, h1, h2⟩
  · simp only [Int.natCast_zero] at h1
    refine ⟨true, fun H => PFn.call (xs := [(elR true).lt true (tabl n P)]) (.of1 (x := .ret) (e := [(2, .b true)]) (H' := []) (hF.S _ _ (by decide)) hd rfl ?_ (.inl rfl) rfl (by simp [sn_i, sn_b, sn_nil, sn8_i, sn8_b, sn8_nil, sn7_i, sn7_b, sn_sl, sn8_sl, slB_some, sn_tup, sn_agg, sn8_agg, mapO, elems])) (args := [(elR c).lt b (tabl n P)]) (by simp [snapArgs, snap_rows b c H 6]), by simp [h2]⟩
    simp [d27, c27, zipE, go_nil, go_last, go_past, go_pastR, go_blkN, go_blkR, go_blkE, go_skip, go_exit, go_ret, go_scope, go_seq, go_reg, go_regd, go_opdN, go_opd, go_opdG, grdd_b, grdd_u, stpd_some, find_some, go_block, go_cond, cnd_b, go_opsN, go_ops, go_opsG, grd_b, grd_u, stp_some, fin_some, up_some, cont_some, k_call, k_mv, k_pick, k_bin, k_eqB, k_eqA, k_not, k_neg, k_conv, k_alloc, k_boxA, k_boxI, k_boxB, k_boxN, k_boxBs, k_ldR, k_ldA, k_ldI, k_ldB, k_stA, k_stI, k_stB, ldC_some, stC_some, k_mkfn, k_slc, k_slcA, k_ixA, k_ixBs, k_ixSl, k_fadr, k_fld, k_ext, k_len, k_app, k_mn, k_mx, k_nilck, k_build, k_bsl1, k_bsl2, b_add, b_sub, b_mul, b_eql, b_neq, b_lss, b_leq, b_gtr, b_geq, Dn.setLast, Dn.getLast, evalO, mapO, Dn.get, putE, keepE, TV.one, TV.isAgg, Dn.part, c68, go_denK (c := l27_3) rfl, h1]
  · simp only [Int.natCast_zero] at h1
    refine ⟨false, fun H => PFn.call (xs := [(elR true).lt true (tabl n P)]) (.of1 (x := .ret) (e := [(2, .b false)]) (H' := []) (hF.S _ _ (by decide)) hd rfl ?_ (.inl rfl) rfl (by simp [sn_i, sn_b, sn_nil, sn8_i, sn8_b, sn8_nil, sn7_i, sn7_b, sn_sl, sn8_sl, slB_some, sn_tup, sn_agg, sn8_agg, mapO, elems])) (args := [(elR c).lt b (tabl n P)]) (by simp [snapArgs, snap_rows b c H 6]), by
      simp only [Bool.false_eq_true, false_iff]
      rintro ⟨i, k, h⟩
      exact h2 i k (Nat.zero_le _) h⟩
    simp [d27, c27, zipE, go_nil, go_last, go_past, go_pastR, go_blkN, go_blkR, go_blkE, go_skip, go_exit, go_ret, go_scope, go_seq, go_reg, go_regd, go_opdN, go_opd, go_opdG, grdd_b, grdd_u, stpd_some, find_some, go_block, go_cond, cnd_b, go_opsN, go_ops, go_opsG, grd_b, grd_u, stp_some, fin_some, up_some, cont_some, k_call, k_mv, k_pick, k_bin, k_eqB, k_eqA, k_not, k_neg, k_conv, k_alloc, k_boxA, k_boxI, k_boxB, k_boxN, k_boxBs, k_ldR, k_ldA, k_ldI, k_ldB, k_stA, k_stI, k_stB, ldC_some, stC_some, k_mkfn, k_slc, k_slcA, k_ixA, k_ixBs, k_ixSl, k_fadr, k_fld, k_ext, k_len, k_app, k_mn, k_mx, k_nilck, k_build, k_bsl1, k_bsl2, b_add, b_sub, b_mul, b_eql, b_neq, b_lss, b_leq, b_gtr, b_geq, Dn.setLast, Dn.getLast, evalO, mapO, Dn.get, putE, keepE, TV.one, TV.isAgg, Dn.part, c68, go_denK (c := l27_3) rfl, h1]

/-! both see the same rings -/

theorem Rch.congr {E F : Nat → Nat → Bool} (h : ∀ i k, E i k = F i k) {a b : Nat} (hr : Rch E a b) : Rch F a b := by
  induction hr with
  | here => exact .here
  | step _ he ih => exact .step ih (by rw [← h]; exact he)

theorem wE_all {X : List Obs} {a b : Int} (i k : Nat) : wE X (2 ^ X.length - 1) a b i k = tE X.length (pref X a b) i k := by
  simp only [wE, tE, all_bits]
  cases decide (i < X.length) <;> cases decide (k < X.length) <;> simp

theorem pair_iff {X : List Obs} {a b : Int} {i k : Nat} : Pair X (2 ^ X.length - 1) a b i k ↔ PairT X.length (pref X a b) i k := by
  have hT : ∀ i k, tE X.length (pref X a b) i k = true → k < X.length := by
    intro i k h
    simp only [tE, Bool.and_eq_true, decide_eq_true_eq] at h
    exact h.1.2
  unfold Pair PairT
  rw [wall_iff hT, all_bits, all_bits]
  constructor
  · rintro ⟨h1, h2, h3, _, _, h6, h7⟩
    exact ⟨h2, h3, h1, h6, (Rch.congr wE_all h7).rch1 (by omega)⟩
  · rintro ⟨h1, h2, h3, h4, h5⟩
    exact ⟨h3, h1, h2, by simpa using h1, by simpa using h2, h4, Rch.congr (fun i k => (wE_all i k).symm) h5.rch⟩

end Go.Proofs.Tryd.Dn

/-
  The reference: whether a list is a ring by a table.
-/

namespace Go.Proofs.Tryd.Dn
open Go.Dn

def okRing (n : Nat) (l : List Int) : Prop := (∀ x ∈ l, 0 ≤ x ∧ x < (n : Int)) ∧ l.Nodup
def pvf (P : Nat → Nat → Int) (l : List Int) (i : Nat) : Int := P (l.getD i 0).toNat (l.getD ((i + 1) % l.length) 0).toNat
def isRingP (n : Nat) (P : Nat → Nat → Int) (l : List Int) : Prop := okRing n l ∧ (∀ i, i < l.length → pvf P l i ≠ 0) ∧ 2 ≤ l.length ∧ ∃ i, i < l.length ∧ pvf P l i = 2

/-- a way from k to i, with i strictly preferred to k, is a ring -/
theorem IsWay.ring {X : List Obs} {a b : Int} {i k : Nat} {r : List Nat} (hp : Pair X (2 ^ X.length - 1) a b i k) (h : IsWay (wE X (2 ^ X.length - 1) a b) X.length k i r) : isRingP X.length (pref X a b) (nI r) := by
  have hlen : (nI r).length = r.length := nI_len r
  have hg : ∀ j, j < r.length → (nI r).getD j 0 = ((r.getD j 0 : Nat) : Int) := by
    intro j hj
    rw [List.getD, nI, List.getElem?_map, List.getElem?_eq_getElem hj, List.getD, List.getElem?_eq_getElem hj]; rfl
  have hd : ∀ j (hj : j < r.length), r.getD j 0 = r[j] := fun j hj => by rw [List.getD, List.getElem?_eq_getElem hj]; rfl
  have h0 : r[0]? = some k := by have := h.first; rwa [List.head?_eq_getElem?] at this
  have hl : r[r.length - 1]? = some i := by have := h.last; rwa [List.getLast?_eq_getElem?] at this
  have h2 : 2 ≤ r.length := by
    have h1 := (List.getElem?_eq_some_iff.1 h0).1
    by_cases hr : r.length = 1
    · rw [hr] at hl
      simp only [Nat.sub_self] at hl
      rw [h0] at hl
      exact absurd (Option.some.inj hl).symm hp.1
    · omega
  have hpv : ∀ j, j < r.length → pvf (pref X a b) (nI r) j = if j + 1 = r.length then 2 else pref X a b (r.getD j 0) (r.getD (j + 1) 0) := by
    intro j hj
    unfold pvf
    rw [hlen, hg j hj, hg _ (Nat.mod_lt _ (by omega))]
    simp only [Int.toNat_natCast]
    by_cases hj1 : j + 1 = r.length
    · rw [if_pos hj1, hj1, Nat.mod_self]
      have e1 : r.getD j 0 = i := by
        rw [show j = r.length - 1 by omega, List.getD, hl]; rfl
      have e2 : r.getD 0 0 = k := by rw [List.getD, h0]; rfl
      rw [e1, e2]
      exact hp.2.2.2.2.2.1
    · rw [if_neg hj1, Nat.mod_eq_of_lt (by omega)]
  have hpos : ∀ j, j + 1 < r.length → 0 < pref X a b (r.getD j 0) (r.getD (j + 1) 0) := by
    intro j hj
    have := h.link j (r.getD j 0) (r.getD (j + 1) 0) (by rw [hd j (by omega), List.getElem?_eq_getElem]) (by rw [hd (j + 1) hj, List.getElem?_eq_getElem])
    simp only [wE, Bool.and_eq_true, decide_eq_true_eq] at this
    exact this.2
  refine ⟨⟨fun x hx => ?_, ?_⟩, fun j hj => ?_, by rw [hlen]; exact h2, r.length - 1, by rw [hlen]; omega, ?_⟩
  · obtain ⟨y, hy, rfl⟩ := List.mem_map.1 hx
    have := h.lt y hy
    omega
  · unfold nI
    refine List.Pairwise.map _ ?_ h.nodup
    intro x y hxy he
    exact hxy (by omega)
  · rw [hlen] at hj
    rw [hpv j hj]
    split
    · decide
    · have := hpos j (by omega); omega
  · rw [hpv _ (by omega), if_pos (by omega)]

end Go.Proofs.Tryd.Dn

