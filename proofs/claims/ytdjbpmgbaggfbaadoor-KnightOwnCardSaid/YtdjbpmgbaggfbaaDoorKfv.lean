/-
  Knight: the turn of a closed tour that counts, in the program.
-/
import Derived.Test.YtdjbpmgbaggfbaaDoorKfu
set_option linter.unusedSimpArgs false
set_option linter.unusedVariables false

namespace Go.Proofs.Tryd.Dn
open Go.Dn

/-! part of a slice turned round in place -/
def PlaceQ (pg : Pg) (t : TV) (Q : Heap → List Int → Prop) (P : Nat → Prop) : Prop :=
  ∀ {H : Heap} {l : List Int}, Q H l → ∀ {i : Nat} {x : Int}, l[i]? = some x → ∃ p, dkc pg (den pg) (.ixS 1 false) [t, .i .i64 (i : Int)] H = some (p, H) ∧ dkc pg (den pg) (.ld 1 false) [p] H = some (.i .i64 x, H) ∧
      ∀ v : Int, ∃ H', dkc pg (den pg) (.st 1) [p, .i .i64 v] H = some (.undef, H') ∧ Q H' (l.set i v) ∧ H'.length = H.length ∧ ∀ j, P j → H'[j]? = H[j]?

theorem l80_off {pg : Pg} {t : TV} {Q : Heap → List Int → Prop} {P : Nat → Prop} (hQ : PlaceQ pg t Q P) {l : List Int} (hl : l.length ≤ 1000000) : ∀ (d i : Nat) (H : Heap), i + d = l.length / 2 → Q H (swapTo l i) →
    ∃ e H', den pg l80_1 [(0, t), (2, .i .i64 (i : Int)), (3, .i .i64 ((l.length : Int) - 1 - (i : Int)))] H = some ⟨.exit 0, e, H'⟩ ∧ Q H' l.reverse ∧ H'.length = H.length ∧ ∀ j, P j → H'[j]? = H[j]?
  | 0, i, H, h, hq => by
    have e1 : ¬ ((i : Int) < (l.length : Int) - 1 - (i : Int)) := by omega
    rw [swapTo_end (by omega)] at hq
    refine ⟨[(0, t), (2, .i .i64 (i : Int)), (3, .i .i64 ((l.length : Int) - 1 - (i : Int))), (9, .b false)], H, ?_, hq, rfl, fun _ _ => rfl⟩
    rw [l80_1, den_loop]
    simp [b80_0, go_nil, go_last, go_past, go_pastR, go_blkN, go_blkR, go_blkE, go_skip, go_exit, go_ret, go_scope, go_seq, go_reg, go_regd, go_opdN, go_opd, go_opdG, grdd_b, grdd_u, stpd_some, find_some, go_block, go_cond, cnd_b, go_opsN, go_ops, go_opsG, grd_b, grd_u, stp_some, fin_some, up_some, cont_some, k_call, k_mv, k_pick, k_bin, k_eqB, k_eqA, k_not, k_neg, k_conv, k_alloc, k_boxA, k_boxI, k_boxB, k_boxN, k_boxBs, k_ldR, k_ldA, k_ldI, k_ldB, k_stA, k_stI, k_stB, ldC_some, stC_some, k_mkfn, k_slc, k_slcA, k_ixA, k_ixBs, k_ixSl, k_fadr, k_fld, k_ext, k_len, k_app, k_mn, k_mx, k_nilck, k_build, k_bsl1, k_bsl2, b_add, b_sub, b_mul, b_eql, b_neq, b_lss, b_leq, b_gtr, b_geq, Dn.setLast, Dn.getLast, evalO, mapO, Dn.get, putE, keepE, TV.one, TV.isAgg, Dn.part, e1]
  | d + 1, i, H, h, hq => by
    have hii : i + i + 1 < l.length := by omega
    have e1 : ((i : Int) < (l.length : Int) - 1 - (i : Int)) := by omega
    have hj : ((l.length : Int) - 1 - (i : Int)) = ((l.length - 1 - i : Nat) : Int) := by omega
    have e2 : wrapR .i64 ((i : Int) + 1) = .i .i64 ((i : Int) + 1) := wrapR_i64 (by omega)
    have e3 : wrapR .i64 (((l.length - 1 - i : Nat) : Int) - 1) = .i .i64 ((l.length : Int) - 1 - ((i + 1 : Nat) : Int)) := by
      rw [show (((l.length - 1 - i : Nat) : Int) - 1) = (l.length : Int) - 1 - ((i + 1 : Nat) : Int) by omega]; exact wrapR_i64 (by omega)
    have hgi : (swapTo l i)[i]? = some (l.getD i 0) := by rw [swapTo_get (by omega), if_neg (by omega)]
    have hgj : (swapTo l i)[l.length - 1 - i]? = some (l.getD (l.length - 1 - i) 0) := by rw [swapTo_get (by omega), if_neg (by omega)]
    obtain ⟨pi, a1, a2, a3⟩ := hQ hq hgi
    obtain ⟨pj, b1, b2, _⟩ := hQ hq hgj
    obtain ⟨H1, s1, q1, l1, f1⟩ := a3 (l.getD (l.length - 1 - i) 0)
    obtain ⟨pj', c1, _, c3⟩ := hQ q1 (i := l.length - 1 - i) (x := l.getD (l.length - 1 - i) 0) (by rw [List.getElem?_set_ne (by omega)]; exact hgj)
    obtain ⟨H2, s2, q2, l2, f2⟩ := c3 (l.getD i 0)
    rw [swapTo_step hii] at q2
    obtain ⟨e, H3, h3, q3, l3, f3⟩ := l80_off (pg := pg) hQ hl d (i + 1) H2 (by omega) q2
    refine ⟨e, H3, Eq.trans ?_ h3, q3, by omega, fun j hj => by rw [f3 j hj, f2 j hj, f1 j hj]⟩
    rw [hj] at e1 ⊢
    generalize l.getD (l.length - 1 - i) 0 = vj at *
    generalize l.getD i 0 = vi at *
    generalize ((l.length - 1 - i : Nat) : Int) = jj at *
    generalize (l.length : Int) - 1 - ((i + 1 : Nat) : Int) = jn at *
    rw [l80_1, den_loop]
    simp [l80_1, b80_0, go_nil, go_last, go_past, go_pastR, go_blkN, go_blkR, go_blkE, go_skip, go_exit, go_ret, go_scope, go_seq, go_reg, go_regd, go_opdN, go_opd, go_opdG, grdd_b, grdd_u, stpd_some, find_some, go_block, go_cond, cnd_b, go_opsN, go_ops, go_opsG, grd_b, grd_u, stp_some, fin_some, up_some, cont_some, k_call, k_mv, k_pick, k_bin, k_eqB, k_eqA, k_not, k_neg, k_conv, k_alloc, k_boxA, k_boxI, k_boxB, k_boxN, k_boxBs, k_ldR, k_ldA, k_ldI, k_ldB, k_stA, k_stI, k_stB, ldC_some, stC_some, k_mkfn, k_slc, k_slcA, k_ixA, k_ixBs, k_ixSl, k_fadr, k_fld, k_ext, k_len, k_app, k_mn, k_mx, k_nilck, k_build, k_bsl1, k_bsl2, b_add, b_sub, b_mul, b_eql, b_neq, b_lss, b_leq, b_gtr, b_geq, Dn.setLast, Dn.getLast, evalO, mapO, Dn.get, putE, keepE, TV.one, TV.isAgg, Dn.part, e1, e2, e3, a1, a2, b1, b2, s1, c1, s2]


theorem off_place {pg : Pg} {id : Nat} {pre : List Int} {n : Nat} : PlaceQ pg (.sl id pre.length 1 false n none) (fun H l => l.length = n ∧ elI.Own H (.sl id 0 1 false (pre.length + n) none) (pre ++ l)) (fun j => j ≠ id) := by
  rintro H l ⟨hn, hO⟩ i x hx
  have hi := (List.getElem?_eq_some_iff.1 hx).1
  have hx' : (pre ++ l)[pre.length + i]? = some x := by rw [List.getElem?_append_right (by omega), show pre.length + i - pre.length = i by omega]; exact hx
  obtain ⟨p, p1, p2, p3⟩ := ownAt (pg := pg) (R := den pg) hO hx'
  have h0 := k_ixSl (pg := pg) (R := den pg) 1 false false id 0 (pre.length + n) none .i64 ((pre.length + i : Nat) : Int) H (by omega) (by rw [Int.toNat_natCast]; omega)
  rw [p1] at h0
  have h1 := k_ixSl (pg := pg) (R := den pg) 1 false false id pre.length n none .i64 (i : Int) H (by omega) (by rw [Int.toNat_natCast]; omega)
  have hpe : p = .ref id (0 + (pre.length + i) * 1) := by
    simp only [Option.some.injEq, Prod.mk.injEq, and_true, Int.toNat_natCast] at h0
    exact h0
  refine ⟨p, ?_, p2, fun v => ?_⟩
  · rw [h1, hpe]
    simp only [Int.toNat_natCast]
    rw [show pre.length + i * 1 = 0 + (pre.length + i) * 1 by omega]
  · obtain ⟨H', a1, a2, a3, a4⟩ := p3 v
    refine ⟨H', a1, ⟨by simpa using hn, ?_⟩, a3, fun j hj => a4 j (by simp [TV.idOf]; exact fun e => hj e.symm)⟩
    rw [List.set_append_right _ _ (by omega), show pre.length + i - pre.length = i by omega] at a2
    exact a2

theorem body80_off {pg : Pg} (hF : Free pg) {id : Nat} {pre l : List Int} {H : Heap} (hO : elI.Own H (.sl id 0 1 false (pre.length + l.length) none) (pre ++ l)) (hl : l.length ≤ 1000000) :
    ∃ r H', bodyRun pg (den pg) 80 [.sl id pre.length 1 false l.length none] H = some (r, H') ∧ elI.Own H' (.sl id 0 1 false (pre.length + l.length) none) (pre ++ l.reverse) ∧ H'.length = H.length ∧ ∀ j, j ≠ id → H'[j]? = H[j]? := by
  have hlen : ∀ K, lenK 0 (.sl id pre.length 1 false l.length none) K = some l.length := fun K => rfl
  have e2 : wrapR .i64 ((l.length : Int) - 1) = .i .i64 ((l.length : Int) - 1) := wrapR_i64 (by omega)
  obtain ⟨e, H', h1, ⟨_, h2⟩, h3, h4⟩ := l80_off (pg := pg) (off_place (id := id) (pre := pre) (n := l.length)) hl (l.length / 2) 0 H (by omega) (by rw [swapTo_0]; exact ⟨rfl, hO⟩)
  simp only [Int.natCast_zero, Int.sub_zero] at h1
  refine ⟨tupR [], H', body_ofs (x := .normal) (e := e) (vs := []) (d := d80) (by rw [hF.F]; rfl) rfl ?_ (.inr rfl) rfl, h2, h3, h4⟩
  simp [d80, c80, zipE, go_nil, go_last, go_past, go_pastR, go_blkN, go_blkR, go_blkE, go_skip, go_exit, go_ret, go_scope, go_seq, go_reg, go_regd, go_opdN, go_opd, go_opdG, grdd_b, grdd_u, stpd_some, find_some, go_block, go_cond, cnd_b, go_opsN, go_ops, go_opsG, grd_b, grd_u, stp_some, fin_some, up_some, cont_some, k_call, k_mv, k_pick, k_bin, k_eqB, k_eqA, k_not, k_neg, k_conv, k_alloc, k_boxA, k_boxI, k_boxB, k_boxN, k_boxBs, k_ldR, k_ldA, k_ldI, k_ldB, k_stA, k_stI, k_stB, ldC_some, stC_some, k_mkfn, k_slc, k_slcA, k_ixA, k_ixBs, k_ixSl, k_fadr, k_fld, k_ext, k_len, k_app, k_mn, k_mx, k_nilck, k_build, k_bsl1, k_bsl2, b_add, b_sub, b_mul, b_eql, b_neq, b_lss, b_leq, b_gtr, b_geq, Dn.setLast, Dn.getLast, evalO, mapO, Dn.get, putE, keepE, TV.one, TV.isAgg, Dn.part, hlen, e2, go_denK (c := l80_1) rfl, h1]

theorem clone_run {pg : Pg} {l : List Int} (hne : l ≠ []) (hl : l.length ≤ 1000000) {t : TV} {H : Heap} (hv : elI.View H t l) (hn : t ≠ .nilsl) :
    dkc pg (den pg) (.eqN 0 false) [t, .nilsl] H = some (.b false, H) ∧
    appRun 1 false 8 (.sl H.length 0 1 false 0 (some 0)) t (H ++ [.cells [] false]) = some (.sl (H.length + 1) 0 1 false l.length none, H ++ [.cells [] false, .cells (elI.flat l) false]) ∧
    elI.Own (H ++ [.cells [] false, .cells (elI.flat l) false]) (.sl (H.length + 1) 0 1 false l.length none) l := by
  have hlen : 0 < l.length := by cases l <;> simp_all
  have hv' : elI.View (H ++ [.cells [] false]) t l := hv.mono fun id hid => by rw [List.getElem?_append_left (hv.lt id hid)]
  have hfa := elI.flat_all l
  have hfn := elI.flat_len l
  have hsz : elI.sz = 1 := rfl
  have hfl := hv'.flatOf
  rw [hsz] at hfl hfn
  rw [Nat.mul_one] at hfn
  refine ⟨?_, ?_, ?_⟩
  · rcases hv with ⟨rfl, rfl⟩ | ⟨b, rfl⟩ | ⟨id, off, cap, c, ag, rfl, _⟩
    · exact absurd rfl hn
    · rfl
    · rfl
  · unfold appRun
    rw [hv'.lenOf, Option.bind_some, hfl, Option.bind_some]
    simp only [lenOf, Option.bind_some, Nat.zero_add, Nat.mul_one]
    rw [if_pos ⟨by omega, hfa, hfn⟩, if_neg (by omega)]
    simp only [if_true, getLast, Nat.zero_add]
    rw [if_pos (by simp), if_neg (by omega)]
    simp
  · exact .inr ⟨hne, H.length + 1, false, elI.flat l, rfl, by rw [List.getElem?_append_right (by omega)]; simp, by rw [hsz, Nat.mul_one, hfn]; exact Nat.le_refl _, by rw [hsz, Nat.mul_one, ← hfn, List.take_length]⟩

theorem body79 {pg : Pg} (hF : Free pg) {l : List Int} (hne : l ≠ []) (hl : l.length ≤ 1000000) {t : TV} {H : Heap} (hv : elI.View H t l) (hn : t ≠ .nilsl) :
    bodyRun pg (den pg) 79 [t] H = some (.sl (H.length + 1) 0 1 false l.length none, H ++ [.cells [] false, .cells (elI.flat l) false]) ∧ elI.Own (H ++ [.cells [] false, .cells (elI.flat l) false]) (.sl (H.length + 1) 0 1 false l.length none) l := by
  obtain ⟨en, happ, hR⟩ := clone_run (pg := pg) hne hl hv hn
  have hb : dkc pg (den pg) (.bsl false [.i .i64 0] false 0 []) [] H = some (.sl H.length 0 1 false 0 (some 0), H ++ [.cells [] false]) := rfl
  refine ⟨body_of (x := .ret) (e := [(2, .sl (H.length + 1) 0 1 false l.length none)]) (d := d79) (by rw [hF.F]; rfl) rfl ?_ (.inl rfl) rfl, hR⟩
  simp [d79, c79, zipE, go_nil, go_last, go_past, go_pastR, go_blkN, go_blkR, go_blkE, go_skip, go_exit, go_ret, go_scope, go_seq, go_reg, go_regd, go_opdN, go_opd, go_opdG, grdd_b, grdd_u, stpd_some, find_some, go_block, go_cond, cnd_b, go_opsN, go_ops, go_opsG, grd_b, grd_u, stp_some, fin_some, up_some, cont_some, k_call, k_mv, k_pick, k_bin, k_eqB, k_eqA, k_not, k_neg, k_conv, k_alloc, k_boxA, k_boxI, k_boxB, k_boxN, k_boxBs, k_ldR, k_ldA, k_ldI, k_ldB, k_stA, k_stI, k_stB, ldC_some, stC_some, k_mkfn, k_slc, k_slcA, k_ixA, k_ixBs, k_ixSl, k_fadr, k_fld, k_ext, k_len, k_app, k_mn, k_mx, k_nilck, k_build, k_bsl1, k_bsl2, b_add, b_sub, b_mul, b_eql, b_neq, b_lss, b_leq, b_gtr, b_geq, Dn.setLast, Dn.getLast, evalO, mapO, Dn.get, putE, keepE, TV.one, TV.isAgg, Dn.part, en, hb, happ]

/-! where a number stands -/
theorem l78_1_all {pg : Pg} {A : TV} {l : List Int} (hA : SV A l) (hl : l.length ≤ 1000000) {x : Int} {n : Nat} (hn : l[n]? = some x) (hb : ∀ j, j < n → l[j]? ≠ some x) {H : Heap} : ∀ (d k : Nat), k + d = n →
    den pg l78_1 [(0, A), (1, .i .i64 x), (7, .i .i64 (l.length : Int)), (8, .i .i64 (k : Int))] H = some ⟨.ret, [(4, .i .i64 (n : Int))], H⟩
  | 0, k, hd => by
    obtain rfl : k = n := by omega
    have hlt := (List.getElem?_eq_some_iff.1 hn).1
    obtain ⟨p, p1, p2⟩ := ixI (pg := pg) (R := den pg) (hA.view H) hn
    rw [l78_1, den_loop]
    simp (disch := omega) [b78_0, go_nil, go_last, go_past, go_pastR, go_blkN, go_blkR, go_blkE, go_skip, go_exit, go_ret, go_scope, go_seq, go_reg, go_regd, go_opdN, go_opd, go_opdG, grdd_b, grdd_u, stpd_some, find_some, go_block, go_cond, cnd_b, go_opsN, go_ops, go_opsG, grd_b, grd_u, stp_some, fin_some, up_some, cont_some, k_call, k_mv, k_pick, k_bin, k_eqB, k_eqA, k_not, k_neg, k_conv, k_alloc, k_boxA, k_boxI, k_boxB, k_boxN, k_boxBs, k_ldR, k_ldA, k_ldI, k_ldB, k_stA, k_stI, k_stB, ldC_some, stC_some, k_mkfn, k_slc, k_slcA, k_ixA, k_ixBs, k_ixSl, k_fadr, k_fld, k_ext, k_len, k_app, k_mn, k_mx, k_nilck, k_build, k_bsl1, k_bsl2, b_add, b_sub, b_mul, b_eql, b_neq, b_lss, b_leq, b_gtr, b_geq, Dn.setLast, Dn.getLast, evalO, mapO, Dn.get, putE, keepE_nil, keepE_cons, kp_some, kp_none, TV.one, TV.isAgg, Dn.part, k_boxR, negb, at0, at1, at2, at3, at4, dT, dF, wrapR_i64, Option.bind_some, Option.map_some, p1, p2]
  | d + 1, k, hd => by
    have hlt := (List.getElem?_eq_some_iff.1 hn).1
    have hk : l[k]? = some l[k] := List.getElem?_eq_getElem (by omega)
    have hne := hb k (by omega)
    rw [hk] at hne
    generalize l[k] = y at *
    have hxy : ¬ (x = y) := fun e => hne (by rw [e])
    obtain ⟨p, p1, p2⟩ := ixI (pg := pg) (R := den pg) (hA.view H) hk
    have wk : wrapR .i64 ((k : Int) + 1) = .i .i64 ((k + 1 : Nat) : Int) := by rw [← Int.natCast_succ]; exact wrapR_i64 (by omega)
    have ih := l78_1_all (pg := pg) hA hl hn hb (H := H) d (k + 1) (by omega)
    rw [← ih]
    generalize ((k + 1 : Nat) : Int) = K1 at *
    rw [l78_1, den_loop]
    simp (disch := omega) [l78_1, b78_0, go_nil, go_last, go_past, go_pastR, go_blkN, go_blkR, go_blkE, go_skip, go_exit, go_ret, go_scope, go_seq, go_reg, go_regd, go_opdN, go_opd, go_opdG, grdd_b, grdd_u, stpd_some, find_some, go_block, go_cond, cnd_b, go_opsN, go_ops, go_opsG, grd_b, grd_u, stp_some, fin_some, up_some, cont_some, k_call, k_mv, k_pick, k_bin, k_eqB, k_eqA, k_not, k_neg, k_conv, k_alloc, k_boxA, k_boxI, k_boxB, k_boxN, k_boxBs, k_ldR, k_ldA, k_ldI, k_ldB, k_stA, k_stI, k_stB, ldC_some, stC_some, k_mkfn, k_slc, k_slcA, k_ixA, k_ixBs, k_ixSl, k_fadr, k_fld, k_ext, k_len, k_app, k_mn, k_mx, k_nilck, k_build, k_bsl1, k_bsl2, b_add, b_sub, b_mul, b_eql, b_neq, b_lss, b_leq, b_gtr, b_geq, Dn.setLast, Dn.getLast, evalO, mapO, Dn.get, putE, keepE_nil, keepE_cons, kp_some, kp_none, TV.one, TV.isAgg, Dn.part, k_boxR, negb, at0, at1, at2, at3, at4, dT, dF, wrapR_i64, Option.bind_some, Option.map_some, p1, p2, hxy, wk]

theorem fn78 {pg : Pg} (hF : Free pg) {A : TV} {l : List Int} (hA : SV A l) (hl : l.length ≤ 1000000) {x : Int} {n : Nat} (hn : l[n]? = some x) (hb : ∀ j, j < n → l[j]? ≠ some x) : PFn pg 78 [A, .i .i64 x] (.i .i64 (n : Int)) := by
  have hlen := fun K => (hA.view K).lenK K
  have r := l78_1_all (pg := pg) hA hl hn hb (H := []) n 0 (by omega)
  simp only [Int.natCast_zero] at r
  refine .inr ⟨hF.S _ _ (by decide), .i .i64 (n : Int), [], body_of (x := .ret) (e := [(4, .i .i64 (n : Int))]) (d := d78) (by rw [hF.F]; rfl) rfl ?_ (.inl rfl) rfl, sn_i _ _ _ _⟩
  simp (disch := omega) [d78, c78, zipE, go_nil, go_last, go_past, go_pastR, go_blkN, go_blkR, go_blkE, go_skip, go_exit, go_ret, go_scope, go_seq, go_reg, go_regd, go_opdN, go_opd, go_opdG, grdd_b, grdd_u, stpd_some, find_some, go_block, go_cond, cnd_b, go_opsN, go_ops, go_opsG, grd_b, grd_u, stp_some, fin_some, up_some, cont_some, k_call, k_mv, k_pick, k_bin, k_eqB, k_eqA, k_not, k_neg, k_conv, k_alloc, k_boxA, k_boxI, k_boxB, k_boxN, k_boxBs, k_ldR, k_ldA, k_ldI, k_ldB, k_stA, k_stI, k_stB, ldC_some, stC_some, k_mkfn, k_slc, k_slcA, k_ixA, k_ixBs, k_ixSl, k_fadr, k_fld, k_ext, k_len, k_app, k_mn, k_mx, k_nilck, k_build, k_bsl1, k_bsl2, b_add, b_sub, b_mul, b_eql, b_neq, b_lss, b_leq, b_gtr, b_geq, Dn.setLast, Dn.getLast, evalO, mapO, Dn.get, putE, keepE_nil, keepE_cons, kp_some, kp_none, TV.one, TV.isAgg, Dn.part, k_boxR, negb, at0, at1, at2, at3, at4, dT, dF, wrapR_i64, Option.bind_some, Option.map_some, hlen, go_denK (c := l78_1) rfl, r]

end Go.Proofs.Tryd.Dn

/-
  Knight: the turn of a closed tour that counts: the program's.
-/

namespace Go.Proofs.Tryd.Dn
open Go.Dn

def turnO (l : List Int) (i : Nat) : List Int := l.drop i ++ l.take i
def turnS (l : List Int) (i : Nat) : List Int := if (turnO l i).getD (l.length - 1) 0 < (turnO l i).getD 1 0 then [(turnO l i).getD 0 0] ++ ((turnO l i).drop 1).reverse else turnO l i

theorem turnO_len {l : List Int} {i : Nat} (hi : i ≤ l.length) : (turnO l i).length = l.length := by unfold turnO; simp; omega

theorem fn52_no {pg : Pg} (hF : Free pg) {r c : Nat} (h : Brd r c) {A : TV} {l : List Int} (hA : SV A l) (h64 : l.length ≤ 1000000) (hc : closedB r c l = false) : PFn pg 52 [.i .i64 (r : Int), .i .i64 (c : Int), A] (.tup [.nilsl, .i .i64 60]) := by
  obtain ⟨H1, h1, h2, h3, h4⟩ := body59n (pg := pg) hF h []
  simp only [List.length_nil] at h1 h2
  obtain ⟨A', sA, hA'⟩ := sv_snapB hA
  have c77 := Bv.call77 (pg := pg) hF (Bv.ref h2) h (sA H1) hA' h64
  rw [hc] at c77
  refine .of2 (x := .ret) (e := [(6, .nilsl), (7, .i .i64 60)]) (H' := H1) (hF.S _ _ (by decide)) (d := d52) (by rw [hF.F]; rfl) rfl ?_ (.inl rfl) rfl (by simp) (by simp [sn_i, sn_b, sn_nil, sn8_i, sn8_b, sn8_nil, sn7_i, sn7_b, sn_sl, sn8_sl, slB_some, sn_tup, sn_agg, sn8_agg, mapO, elems])
  simp (disch := omega) [d52, c52, zipE, go_nil, go_last, go_past, go_pastR, go_blkN, go_blkR, go_blkE, go_skip, go_exit, go_ret, go_scope, go_seq, go_reg, go_regd, go_opdN, go_opd, go_opdG, grdd_b, grdd_u, stpd_some, find_some, go_block, go_cond, cnd_b, go_opsN, go_ops, go_opsG, grd_b, grd_u, stp_some, fin_some, up_some, cont_some, k_call, k_mv, k_pick, k_bin, k_eqB, k_eqA, k_not, k_neg, k_conv, k_alloc, k_boxA, k_boxI, k_boxB, k_boxN, k_boxBs, k_ldR, k_ldA, k_ldI, k_ldB, k_stA, k_stI, k_stB, ldC_some, stC_some, k_mkfn, k_slc, k_slcA, k_ixA, k_ixBs, k_ixSl, k_fadr, k_fld, k_ext, k_len, k_app, k_mn, k_mx, k_nilck, k_build, k_bsl1, k_bsl2, b_add, b_sub, b_mul, b_eql, b_neq, b_lss, b_leq, b_gtr, b_geq, Dn.setLast, Dn.getLast, evalO, mapO, Dn.get, putE, keepE_nil, keepE_cons, kp_some, kp_none, TV.one, TV.isAgg, Dn.part, k_boxR, negb, at0, at1, at2, at3, at4, dT, dF, wrapR_i64, Option.bind_some, Option.map_some, sh_fn, h1, c77]

theorem closed_long {r c : Nat} {l : List Int} (h : Brd r c) (hc : closedB r c l = true) : 3 ≤ l.length ∧ l.length = r * c := by
  unfold closedB at hc
  rw [Bool.and_eq_true] at hc
  have hl := tourB_len hc.1
  have hpos : 1 ≤ r * c := Nat.mul_pos h.r1 h.c1
  obtain ⟨s, s1, s2, s3⟩ := tourB_at hc.1 (i := 0) (by omega)
  obtain ⟨t, t1, t2, t3⟩ := tourB_at hc.1 (i := l.length - 1) (by omega)
  have he := hc.2
  unfold endsB at he
  rw [s3, t3, Int.toNat_natCast, Int.toNat_natCast] at he
  exact ⟨by rw [hl]; exact near_big h s2 t2 he, hl⟩

theorem fn52_yes {pg : Pg} (hF : Free pg) {r c : Nat} (h : Brd r c) {A : TV} {l : List Int} (hA : SV A l) (h64 : l.length ≤ 1000000) (hc : closedB r c l = true) {i : Nat} (hi : l[i]? = some 0) (hb : ∀ j, j < i → l[j]? ≠ some 0) :
    PFn pg 52 [.i .i64 (r : Int), .i .i64 (c : Int), A] (.tup [elI.lt false (turnS l i), .i .i64 0]) := by
  obtain ⟨hl3, hln⟩ := closed_long h hc
  have hil := (List.getElem?_eq_some_iff.1 hi).1
  obtain ⟨H1, h1, h2, h3, h4⟩ := body59n (pg := pg) hF h []
  simp only [List.length_nil] at h1 h2
  obtain ⟨A', sA, hA'⟩ := sv_snapB hA
  have c77 := Bv.call77 (pg := pg) hF (Bv.ref h2) h (sA H1) hA' h64
  rw [hc] at c77
  have c78 := PFn.call (fn78 (pg := pg) hF hA' h64 hi hb) (args := [A, .i .i64 0]) (ks := []) (fs := []) (cs := []) (H := H1) (by simp [snapArgs, sA, sn_i])
  obtain ⟨b, rfl⟩ : ∃ b, A = .bs b 1 (l.map elI.val) := by
    rcases hA with ⟨_, rfl⟩ | h
    · simp at hl3
    · exact h
  have bd1 : bounds3 true false false l.length [.i .i64 (i : Int)] = some (i, l.length, none) := by
    have : i ≤ l.length := by omega
    simp [bounds3, bound, this]
  have bd2 : bounds3 false true false l.length [.i .i64 (i : Int)] = some (0, i, none) := by
    have : i ≤ l.length := by omega
    simp [bounds3, bound, this]
  have sl1 : slcRun true false false 1 false (.bs b 1 (l.map elI.val)) [.i .i64 (i : Int)] = some (.bs b 1 ((l.drop i).map elI.val)) := by
    have : i ≤ l.length := by omega
    simp only [slcRun, List.length_map, bd1, Option.bind_some, true_and, Option.getD_none, Nat.le_refl, and_self, if_true]
    rw [if_neg (by simp)]
    congr 2
    rw [← List.map_drop, List.take_of_length_le (by simp)]
  have sl2 : slcRun false true false 1 false (.bs b 1 (l.map elI.val)) [.i .i64 (i : Int)] = some (.bs b 1 ((l.take i).map elI.val)) := by
    have : i ≤ l.length := by omega
    simp only [slcRun, List.length_map, bd2, Option.bind_some, true_and, Option.getD_none, Nat.le_refl, this, and_self, if_true]
    rw [if_neg (by simp)]
    congr 2
    rw [List.drop_zero, Nat.sub_zero, List.map_take]
  have hne : l.drop i ≠ [] := fun e => by have := congrArg List.length e; simp at this; omega
  obtain ⟨b1, b2⟩ := body79 (pg := pg) hF hne (by simp; omega) (t := .bs b 1 ((l.drop i).map elI.val)) (H := H1) (.inr (.inl ⟨b, rfl⟩)) (by simp)
  obtain ⟨H2, hH2⟩ : ∃ H2, H2 = H1 ++ [.cells [] false, .cells (elI.flat (l.drop i)) false] := ⟨_, rfl⟩
  rw [← hH2] at b1 b2
  obtain ⟨O1, hO1⟩ : ∃ O1, O1 = TV.sl (H1.length + 1) 0 1 false (l.drop i).length none := ⟨_, rfl⟩
  rw [← hO1] at b1 b2
  obtain ⟨O, H3, a1, a2, _, _, _⟩ := appI (H := H2) (t := O1) (x := .bs b 1 ((l.take i).map elI.val)) (l := l.drop i) (k := l.take i) b2 (.inr (.inl ⟨b, rfl⟩)) (by simp; omega)
  have hol := turnO_len (l := l) (i := i) (by omega)
  have hoe : l.drop i ++ l.take i = turnO l i := rfl
  rw [hoe] at a2
  obtain ⟨o, ho⟩ : ∃ o, o = turnO l i := ⟨_, rfl⟩
  have hts : turnS l i = if o.getD (l.length - 1) 0 < o.getD 1 0 then [o.getD 0 0] ++ (o.drop 1).reverse else o := by unfold turnS; rw [ho]
  rw [hts]
  rw [← ho] at a2 hol
  have hlen := a2.view.lenK H3
  rw [hol] at hlen
  have g1 : o[1]? = some (o.getD 1 0) := getD_some (by omega)
  have gn : o[l.length - 1]? = some (o.getD (l.length - 1) 0) := getD_some (by omega)
  obtain ⟨p, p1, p2⟩ := ixI (pg := pg) (R := den pg) a2.view g1
  obtain ⟨q, q1, q2⟩ := ixI (pg := pg) (R := den pg) a2.view gn
  have wl : wrapR .i64 ((l.length : Int) - 1) = .i .i64 ((l.length - 1 : Nat) : Int) := by rw [show (l.length : Int) - 1 = ((l.length - 1 : Nat) : Int) by omega]; exact wrapR_i64 (by omega)
  simp only [Int.natCast_one] at p1
  generalize o.getD (l.length - 1) 0 = YN at *
  generalize o.getD 1 0 = Y1 at *
  by_cases hlt : YN < Y1
  · rw [if_pos hlt]
    rcases a2 with ⟨_, he⟩ | ⟨_, id, ag, cc, rfl, k1, k2, k3⟩
    · rw [he] at hol; simp at hol; omega
    · have hoo : o = [o.getD 0 0] ++ o.drop 1 := by
        cases o with
        | nil => simp at hol; omega
        | cons x t => rfl
      have hO4 : elI.Own H3 (.sl id 0 1 false ([o.getD 0 0].length + (o.drop 1).length) none) ([o.getD 0 0] ++ o.drop 1) := by
        rw [← hoo]
        refine .inr ⟨by intro e; rw [e] at hol; simp at hol; omega, id, ag, cc, ?_, k1, k2, k3⟩
        rw [show [o.getD 0 0].length + (o.drop 1).length = o.length by simp; omega]
        rfl
      obtain ⟨rr, H4, m1, m2, _, _⟩ := body80_off (pg := pg) hF (id := id) (pre := [o.getD 0 0]) (l := o.drop 1) hO4 (by simp; omega)
      have sl3 : slcRun true false false 1 false (.sl id 0 elI.sz elI.ag o.length none) [.i .i64 1] = some (.sl id ([o.getD 0 0].length) 1 false (o.drop 1).length none) := by
        have bd3 : bounds3 true false false o.length [.i .i64 1] = some (1, o.length, none) := by
          have ho0 : o ≠ [] := by intro e; rw [e] at hol; simp at hol; omega
          simp [bounds3, bound, ho0]
        have e1 : elI.sz = 1 := rfl
        simp only [slcRun, bd3, e1, Option.bind_some, true_and, Option.getD_none, Nat.le_refl, and_self, if_true]
        rw [if_neg (by simp)]
        simp
      have m1' : callRun pg (den pg) .sh [.fn 80 [] [], .sl id ([o.getD 0 0].length) 1 false (o.drop 1).length none] H3 = some (rr, H4) := by rw [sh_fn]; exact m1
      obtain ⟨OO, hOO⟩ : ∃ OO, OO = TV.sl id 0 elI.sz elI.ag o.length none := ⟨_, rfl⟩
      have hfin : snap .fin H4 8 OO = some (elI.lt false ([o.getD 0 0] ++ (o.drop 1).reverse)) := by
        have := m2.fin8 elI_flat
        rw [hOO, ← this, show [o.getD 0 0].length + (o.drop 1).length = o.length by simp; omega]
        rfl
      rw [← hOO] at a1 p1 q1 hlen sl3
      refine .of_go (x := .ret) (e := [(6, OO), (7, .i .i64 0)]) (H' := H4) (vs := [OO, .i .i64 0]) (hF.S _ _ (by decide)) (d := d52) (by rw [hF.F]; rfl) rfl ?_ (.inl rfl) rfl (by simp [tupR, sn_tup, mapO, hfin, sn8_i])
      generalize TV.sl id ([o.getD 0 0].length) 1 false (o.drop 1).length none = SS at *
      generalize ((l.length - 1 : Nat) : Int) = N1 at *
      generalize TV.bs b 1 (l.map elI.val) = AA at *
      generalize TV.bs b 1 ((l.drop i).map elI.val) = AD at *
      generalize TV.bs b 1 ((l.take i).map elI.val) = AT at *
      simp (disch := omega) [d52, c52, zipE, go_nil, go_last, go_past, go_pastR, go_blkN, go_blkR, go_blkE, go_skip, go_exit, go_ret, go_scope, go_seq, go_reg, go_regd, go_opdN, go_opd, go_opdG, grdd_b, grdd_u, stpd_some, find_some, go_block, go_cond, cnd_b, go_opsN, go_ops, go_opsG, grd_b, grd_u, stp_some, fin_some, up_some, cont_some, k_call, k_mv, k_pick, k_bin, k_eqB, k_eqA, k_not, k_neg, k_conv, k_alloc, k_boxA, k_boxI, k_boxB, k_boxN, k_boxBs, k_ldR, k_ldA, k_ldI, k_ldB, k_stA, k_stI, k_stB, ldC_some, stC_some, k_mkfn, k_slc, k_slcA, k_ixA, k_ixBs, k_ixSl, k_fadr, k_fld, k_ext, k_len, k_app, k_mn, k_mx, k_nilck, k_build, k_bsl1, k_bsl2, b_add, b_sub, b_mul, b_eql, b_neq, b_lss, b_leq, b_gtr, b_geq, Dn.setLast, Dn.getLast, evalO, mapO, Dn.get, putE, keepE_nil, keepE_cons, kp_some, kp_none, TV.one, TV.isAgg, Dn.part, k_boxR, negb, at0, at1, at2, at3, at4, dT, dF, wrapR_i64, Option.bind_some, Option.map_some, sh_fn, h1, c77, c78, sl1, sl2, b1, a1, p1, p2, q1, q2, hlen, wl, sl3, m1]
  · rw [if_neg hlt]
    have hfin := a2.fin8 elI_flat
    refine .of_go (x := .ret) (e := [(6, O), (7, .i .i64 0)]) (H' := H3) (vs := [O, .i .i64 0]) (hF.S _ _ (by decide)) (d := d52) (by rw [hF.F]; rfl) rfl ?_ (.inl rfl) rfl (by simp [tupR, sn_tup, mapO, hfin, sn8_i])
    generalize ((l.length - 1 : Nat) : Int) = N1 at *
    generalize TV.bs b 1 (l.map elI.val) = AA at *
    generalize TV.bs b 1 ((l.drop i).map elI.val) = AD at *
    generalize TV.bs b 1 ((l.take i).map elI.val) = AT at *
    simp (disch := omega) [d52, c52, zipE, go_nil, go_last, go_past, go_pastR, go_blkN, go_blkR, go_blkE, go_skip, go_exit, go_ret, go_scope, go_seq, go_reg, go_regd, go_opdN, go_opd, go_opdG, grdd_b, grdd_u, stpd_some, find_some, go_block, go_cond, cnd_b, go_opsN, go_ops, go_opsG, grd_b, grd_u, stp_some, fin_some, up_some, cont_some, k_call, k_mv, k_pick, k_bin, k_eqB, k_eqA, k_not, k_neg, k_conv, k_alloc, k_boxA, k_boxI, k_boxB, k_boxN, k_boxBs, k_ldR, k_ldA, k_ldI, k_ldB, k_stA, k_stI, k_stB, ldC_some, stC_some, k_mkfn, k_slc, k_slcA, k_ixA, k_ixBs, k_ixSl, k_fadr, k_fld, k_ext, k_len, k_app, k_mn, k_mx, k_nilck, k_build, k_bsl1, k_bsl2, b_add, b_sub, b_mul, b_eql, b_neq, b_lss, b_leq, b_gtr, b_geq, Dn.setLast, Dn.getLast, evalO, mapO, Dn.get, putE, keepE_nil, keepE_cons, kp_some, kp_none, TV.one, TV.isAgg, Dn.part, k_boxR, negb, at0, at1, at2, at3, at4, dT, dF, wrapR_i64, Option.bind_some, Option.map_some, sh_fn, h1, c77, c78, sl1, sl2, b1, a1, p1, p2, q1, q2, hlen, wl]

end Go.Proofs.Tryd.Dn

/-
  Knight: the turn of a closed tour that counts: the reference's.
-/

namespace Go.Proofs.Tryd.Dn
open Go.Dn

end Go.Proofs.Tryd.Dn

