/-
  PriceChecks: data that are no observations.
-/
import Derived.Test.YtgmlmmgpcbollaaDoorQd
set_option linter.unusedSimpArgs false
set_option linter.unusedVariables false

namespace Go.Proofs.Tryd.Dn
open Go.Dn

theorem l50_round {pg : Pg} (hF : Free pg) {T out : TV} {l m : List Obs} {i : Nat} {x : Obs} {H : Heap} (hT : Rws T l) (hx : l[i]? = some x) (hi5 : i ≤ 5) (ho : (elS false).Own H out m) (hm : m.length ≤ 1000000) :
    ∃ out' H', den pg l50_1 [(0, T), (3, out), (4, .i .i64 (i : Int))] H = den pg l50_1 [(0, T), (3, out'), (4, .i .i64 ((i + 1 : Nat) : Int))] H' ∧ (elS false).Own H' out' (m ++ [cut 4 x]) := by
  have hi := (List.getElem?_eq_some_iff.1 hx).1
  have e1 : ((i : Int) < (l.length : Int)) := by omega
  have e3 : ((i : Int) ≤ 5) := by omega
  have e2 : wrapR .i64 ((i : Int) + 1) = .i .i64 ((i : Int) + 1) := wrapR_i64 (by omega)
  have hlen := hT.len
  obtain ⟨b, a, c, hix, ha, hc⟩ := hT.ix (pg := pg) (R := den pg) hx H
  obtain ⟨f1, f2⟩ := k_fadrP (pg := pg) (R := den pg) b a c ha.noagg hc.noagg H
  have d1 := k_ldV (pg := pg) (R := den pg) b a ha.one H
  have d2 := k_ldV (pg := pg) (R := den pg) b c hc.one H
  have c1 := call29 hF ha (n := 4) (by omega) H
  have c2 := call29 hF hc (n := 4) (by omega) H
  simp only [Int.cast_ofNat_Int] at c1 c2
  have k1 := k_buildS (pg := pg) (R := den pg) false false (x.1.take 4) (x.2.take 4) H
  have k2 := k_bslS (pg := pg) (R := den pg) false false (x.1.take 4) (x.2.take 4) H
  obtain ⟨out', H', h1, h2, _⟩ := El.app (E := elS false) (bytes := 48) (H := H ++ [.cells [elI.lt false (x.1.take 4), elI.lt false (x.2.take 4)] false]) (ho.mono fun id hid => by rw [List.getElem?_append_left (ho.lt id hid)]) (one_viewE (elS false) H (cut 4 x)) (by simp; omega)
  have h1' : appRun 2 true 48 out (.sl H.length 0 2 true 1 (some 1)) (H ++ [.cells [elI.lt false (x.1.take 4), elI.lt false (x.2.take 4)] false]) = some (out', H') := h1
  refine ⟨out', H', ?_, h2⟩
  rw [l50_1, den_loop]
  simp [l50_1, b50_0, go_nil, go_last, go_past, go_pastR, go_blkN, go_blkR, go_blkE, go_skip, go_exit, go_ret, go_scope, go_seq, go_reg, go_block, go_cond, cnd_b, go_opsN, go_ops, go_opsG, grd_b, grd_u, stp_some, fin_some, up_some, cont_some, k_call, k_mv, k_pick, k_bin, k_eqB, k_eqA, k_not, k_neg, k_conv, k_alloc, k_boxA, k_boxI, k_boxB, k_boxN, k_boxBs, k_ldR, k_ldA, k_ldI, k_ldB, k_stA, k_stI, k_stB, ldC_some, stC_some, k_mkfn, k_slc, k_slcA, k_ixA, k_ixBs, k_ixSl, k_fadr, k_fld, k_ext, k_len, k_app, k_mn, k_mx, k_nilck, k_build, k_bsl1, k_bsl2, b_add, b_sub, b_mul, b_eql, b_neq, b_lss, b_leq, b_gtr, b_geq, Dn.setLast, Dn.getLast, evalO, mapO, Dn.get, putE, keepE, TV.one, TV.isAgg, Dn.part, e1, e2, e3, hlen, hix, f1, f2, d1, d2, c1, c2, k1, k2, h1']

theorem l50_all {pg : Pg} (hF : Free pg) {T : TV} {l : List Obs} (hT : Rws T l) : ∀ (k i : Nat) (m : List Obs) (out : TV) (H : Heap), i + k = min l.length 6 → (elS false).Own H out m → m.length = i →
    ∃ out' e H', den pg l50_1 [(0, T), (3, out), (4, .i .i64 (i : Int))] H = some ⟨.exit 0, e, H'⟩ ∧ Dn.get e 3 = some out' ∧ (elS false).Own H' out' (m ++ ((l.take 6).drop i).map (cut 4))
  | 0, i, m, out, H, h, ho, hm => by
    have hlen := hT.len
    refine ⟨out, [(0, T), (3, out), (4, .i .i64 (i : Int)), (12, .b false)], H, ?_, rfl, ?_⟩
    · by_cases hi : i < l.length
      · have e1 : ((i : Int) < (l.length : Int)) := by omega
        have e3 : ¬ ((i : Int) ≤ 5) := by omega
        rw [l50_1, den_loop]
        simp [b50_0, go_nil, go_last, go_past, go_pastR, go_blkN, go_blkR, go_blkE, go_skip, go_exit, go_ret, go_scope, go_seq, go_reg, go_block, go_cond, cnd_b, go_opsN, go_ops, go_opsG, grd_b, grd_u, stp_some, fin_some, up_some, cont_some, k_call, k_mv, k_pick, k_bin, k_eqB, k_eqA, k_not, k_neg, k_conv, k_alloc, k_boxA, k_boxI, k_boxB, k_boxN, k_boxBs, k_ldR, k_ldA, k_ldI, k_ldB, k_stA, k_stI, k_stB, ldC_some, stC_some, k_mkfn, k_slc, k_slcA, k_ixA, k_ixBs, k_ixSl, k_fadr, k_fld, k_ext, k_len, k_app, k_mn, k_mx, k_nilck, k_build, k_bsl1, k_bsl2, b_add, b_sub, b_mul, b_eql, b_neq, b_lss, b_leq, b_gtr, b_geq, Dn.setLast, Dn.getLast, evalO, mapO, Dn.get, putE, keepE, TV.one, TV.isAgg, Dn.part, hlen, e1, e3]
      · have e1 : ¬ ((i : Int) < (l.length : Int)) := by omega
        rw [l50_1, den_loop]
        simp [b50_0, go_nil, go_last, go_past, go_pastR, go_blkN, go_blkR, go_blkE, go_skip, go_exit, go_ret, go_scope, go_seq, go_reg, go_block, go_cond, cnd_b, go_opsN, go_ops, go_opsG, grd_b, grd_u, stp_some, fin_some, up_some, cont_some, k_call, k_mv, k_pick, k_bin, k_eqB, k_eqA, k_not, k_neg, k_conv, k_alloc, k_boxA, k_boxI, k_boxB, k_boxN, k_boxBs, k_ldR, k_ldA, k_ldI, k_ldB, k_stA, k_stI, k_stB, ldC_some, stC_some, k_mkfn, k_slc, k_slcA, k_ixA, k_ixBs, k_ixSl, k_fadr, k_fld, k_ext, k_len, k_app, k_mn, k_mx, k_nilck, k_build, k_bsl1, k_bsl2, b_add, b_sub, b_mul, b_eql, b_neq, b_lss, b_leq, b_gtr, b_geq, Dn.setLast, Dn.getLast, evalO, mapO, Dn.get, putE, keepE, TV.one, TV.isAgg, Dn.part, hlen, e1]
    · rw [List.drop_eq_nil_of_le (by simp; omega)]; simpa using ho
  | k + 1, i, m, out, H, h, ho, hm => by
    have hi : i < l.length := by omega
    obtain ⟨out', H', h1, h2⟩ := l50_round hF (i := i) hT (List.getElem?_eq_getElem hi) (by omega) ho (by omega)
    obtain ⟨out2, e, H2, h3, h4, h6⟩ := l50_all hF hT k (i + 1) (m ++ [cut 4 l[i]]) out' H' (by omega) h2 (by simp; omega)
    refine ⟨out2, e, H2, h1.trans h3, h4, ?_⟩
    have hd : (l.take 6).drop i = l[i] :: (l.take 6).drop (i + 1) := by
      rw [List.drop_eq_getElem_cons (by simp; omega)]
      congr 1
      simp
    rw [hd, List.map_cons]
    simpa [List.append_assoc] using h6

def ownd (l : List Obs) : List Obs := (l.take 6).map (cut 4)

theorem call50 {pg : Pg} (hF : Free pg) {T : TV} {l : List Obs} (hT : Rws T l) (H : Heap) : callRun pg (den pg) (.pu []) [.fn 50 [] [], T] H = some ((elS false).lt false (ownd l), H) := by
  obtain ⟨T', g1, g2⟩ := hT.snap H 5
  obtain ⟨out', e, H', h1, h2, h4⟩ := l50_all hF g2 (min l.length 6) 0 [] .nilsl [] (by omega) (.inl ⟨rfl, rfl⟩) rfl
  simp only [List.drop_zero, List.nil_append, Int.natCast_zero] at h1 h4
  have : PFn pg 50 [T'] ((elS false).lt false (ownd l)) := by
    refine .of_go (x := .ret) (e := [(2, out')]) (H' := H') (vs := [out']) (hF.S _ _ (by decide)) (d := d50) (by rw [hF.F]; rfl) rfl ?_ (.inl rfl) rfl (h4.to (by decide) (E' := elS false) rfl (mapO_map fun a _ => snap_pairF H' 5 a))
    simp [d50, c50, zipE, go_nil, go_last, go_past, go_pastR, go_blkN, go_blkR, go_blkE, go_skip, go_exit, go_ret, go_scope, go_seq, go_reg, go_block, go_cond, cnd_b, go_opsN, go_ops, go_opsG, grd_b, grd_u, stp_some, fin_some, up_some, cont_some, k_call, k_mv, k_pick, k_bin, k_eqB, k_eqA, k_not, k_neg, k_conv, k_alloc, k_boxA, k_boxI, k_boxB, k_boxN, k_boxBs, k_ldR, k_ldA, k_ldI, k_ldB, k_stA, k_stI, k_stB, ldC_some, stC_some, k_mkfn, k_slc, k_slcA, k_ixA, k_ixBs, k_ixSl, k_fadr, k_fld, k_ext, k_len, k_app, k_mn, k_mx, k_nilck, k_build, k_bsl1, k_bsl2, b_add, b_sub, b_mul, b_eql, b_neq, b_lss, b_leq, b_gtr, b_geq, Dn.setLast, Dn.getLast, evalO, mapO, Dn.get, putE, keepE, TV.one, TV.isAgg, Dn.part, go_denK (c := l50_1) rfl, h1, h2]
  exact PFn.call this (args := [T]) (by simp [snapArgs, g1])

theorem cut_cut (x : Obs) : cut 4 (cut 4 x) = cut 4 x := by simp [cut, List.take_take]

theorem ownd_len (l : List Obs) : (ownd l).length ≤ 100 ∧ ∀ x ∈ ownd l, x.1.length ≤ 4 ∧ x.2.length ≤ 4 := by
  refine ⟨by simp [ownd]; omega, fun x hx => ?_⟩
  obtain ⟨y, _, rfl⟩ := List.mem_map.1 hx
  simp [cut]; omega

theorem call18o {pg : Pg} (hF : Free pg) (l : List Obs) (H : Heap) : callRun pg (den pg) (.pu []) [.fn 18 [] [], (elS false).lt false (ownd l)] H = some ((elS false).lt false (ownd l), H) := by
  have := call18 hF (elS_RV false false (ownd l)) (ownd_len l).1 H
  have e : (ownd l).map (cut 4) = ownd l := by simp [ownd, cut_cut, Function.comp_def]
  rwa [e] at this

/-! the reference's Check -/

def okp (p : Int) : Bool := decide (1 ≤ p) && decide (p ≤ 20)
def okb (p : Int) : Bool := decide (0 ≤ p) && decide (p ≤ 20)

theorem l51_1_all {pg : Pg} {T : TV} {l : List Obs} (hT : Rws T l) {i g : Nat} {x : Obs} (hx : l[i]? = some x) (h1 : x.1.length = g) (h2 : x.2.length = g) (hg : g ≤ 1000) {H : Heap} : ∀ (d k : Nat) (s : Bool), k + d = g →
    ((x.1.drop k).all okp = true ∧ (x.2.drop k).all okb = true → ∃ e, den pg l51_1 [(0, T), (3, .i .i64 (g : Int)), (4, .i .i64 (i : Int)), (5, .b s), (6, .i .i64 (k : Int))] H = some ⟨.exit 2, e, H⟩ ∧
      Dn.get e 0 = some T ∧ Dn.get e 3 = some (.i .i64 (g : Int)) ∧ Dn.get e 4 = some (.i .i64 (i : Int)) ∧ Dn.get e 5 = some (.b (s || (x.2.drop k).any fun p => decide (0 < p)))) ∧
    (¬ ((x.1.drop k).all okp = true ∧ (x.2.drop k).all okb = true) → den pg l51_1 [(0, T), (3, .i .i64 (g : Int)), (4, .i .i64 (i : Int)), (5, .b s), (6, .i .i64 (k : Int))] H = some ⟨.ret, [(2, .b false)], H⟩)
  | 0, k, s, h => by
    have e1 : ¬ ((k : Int) < (g : Int)) := by omega
    rw [List.drop_eq_nil_of_le (by omega), List.drop_eq_nil_of_le (by omega)]
    refine ⟨fun _ => ⟨[(0, T), (3, .i .i64 (g : Int)), (4, .i .i64 (i : Int)), (5, .b s), (6, .i .i64 (k : Int)), (48, .b false)], ?_, rfl, rfl, rfl, by simp [Dn.get]⟩, fun h => absurd ⟨rfl, rfl⟩ h⟩
    rw [l51_1, den_loop]
    simp [b51_0, go_nil, go_last, go_past, go_pastR, go_blkN, go_blkR, go_blkE, go_skip, go_exit, go_ret, go_scope, go_seq, go_reg, go_block, go_cond, cnd_b, go_opsN, go_ops, go_opsG, grd_b, grd_u, stp_some, fin_some, up_some, cont_some, k_call, k_mv, k_pick, k_bin, k_eqB, k_eqA, k_not, k_neg, k_conv, k_alloc, k_boxA, k_boxI, k_boxB, k_boxN, k_boxBs, k_ldR, k_ldA, k_ldI, k_ldB, k_stA, k_stI, k_stB, ldC_some, stC_some, k_mkfn, k_slc, k_slcA, k_ixA, k_ixBs, k_ixSl, k_fadr, k_fld, k_ext, k_len, k_app, k_mn, k_mx, k_nilck, k_build, k_bsl1, k_bsl2, b_add, b_sub, b_mul, b_eql, b_neq, b_lss, b_leq, b_gtr, b_geq, Dn.setLast, Dn.getLast, evalO, mapO, Dn.get, putE, keepE, TV.one, TV.isAgg, Dn.part, e1]
  | d + 1, k, s, h => by
    have hk1 : k < x.1.length := by omega
    have hk2 : k < x.2.length := by omega
    have e1 : ((k : Int) < (g : Int)) := by omega
    have e2 : wrapR .i64 ((k : Int) + 1) = .i .i64 ((k : Int) + 1) := wrapR_i64 (by omega)
    obtain ⟨b, a, c, hix, ha, hc⟩ := hT.ix (pg := pg) (R := den pg) hx H
    obtain ⟨f1, f2⟩ := k_fadrP (pg := pg) (R := den pg) b a c ha.noagg hc.noagg H
    have d1 := k_ldV (pg := pg) (R := den pg) b a ha.one H
    have d2 := k_ldV (pg := pg) (R := den pg) b c hc.one H
    obtain ⟨p, hp, hv⟩ := ixI (pg := pg) (R := den pg) (ha.view H) (List.getElem?_eq_getElem hk1)
    obtain ⟨q, hq, hw⟩ := ixI (pg := pg) (R := den pg) (hc.view H) (List.getElem?_eq_getElem hk2)
    rw [List.drop_eq_getElem_cons hk1, List.drop_eq_getElem_cons hk2, List.all_cons, List.all_cons, List.any_cons]
    generalize x.1[k] = pv at *
    generalize x.2[k] = bv at *
    by_cases p1 : pv < 1
    · have : okp pv = false := by simp [okp]; omega
      rw [this]
      refine ⟨fun h => by simp at h, fun _ => ?_⟩
      rw [l51_1, den_loop]
      simp [b51_0, go_nil, go_last, go_past, go_pastR, go_blkN, go_blkR, go_blkE, go_skip, go_exit, go_ret, go_scope, go_seq, go_reg, go_block, go_cond, cnd_b, go_opsN, go_ops, go_opsG, grd_b, grd_u, stp_some, fin_some, up_some, cont_some, k_call, k_mv, k_pick, k_bin, k_eqB, k_eqA, k_not, k_neg, k_conv, k_alloc, k_boxA, k_boxI, k_boxB, k_boxN, k_boxBs, k_ldR, k_ldA, k_ldI, k_ldB, k_stA, k_stI, k_stB, ldC_some, stC_some, k_mkfn, k_slc, k_slcA, k_ixA, k_ixBs, k_ixSl, k_fadr, k_fld, k_ext, k_len, k_app, k_mn, k_mx, k_nilck, k_build, k_bsl1, k_bsl2, b_add, b_sub, b_mul, b_eql, b_neq, b_lss, b_leq, b_gtr, b_geq, Dn.setLast, Dn.getLast, evalO, mapO, Dn.get, putE, keepE, TV.one, TV.isAgg, Dn.part, e1, hix, f1, f2, d1, d2, hp, hv, hq, hw, p1]
    · by_cases p2 : 20 < pv
      · have : okp pv = false := by simp [okp]; omega
        rw [this]
        refine ⟨fun h => by simp at h, fun _ => ?_⟩
        rw [l51_1, den_loop]
        simp [b51_0, go_nil, go_last, go_past, go_pastR, go_blkN, go_blkR, go_blkE, go_skip, go_exit, go_ret, go_scope, go_seq, go_reg, go_block, go_cond, cnd_b, go_opsN, go_ops, go_opsG, grd_b, grd_u, stp_some, fin_some, up_some, cont_some, k_call, k_mv, k_pick, k_bin, k_eqB, k_eqA, k_not, k_neg, k_conv, k_alloc, k_boxA, k_boxI, k_boxB, k_boxN, k_boxBs, k_ldR, k_ldA, k_ldI, k_ldB, k_stA, k_stI, k_stB, ldC_some, stC_some, k_mkfn, k_slc, k_slcA, k_ixA, k_ixBs, k_ixSl, k_fadr, k_fld, k_ext, k_len, k_app, k_mn, k_mx, k_nilck, k_build, k_bsl1, k_bsl2, b_add, b_sub, b_mul, b_eql, b_neq, b_lss, b_leq, b_gtr, b_geq, Dn.setLast, Dn.getLast, evalO, mapO, Dn.get, putE, keepE, TV.one, TV.isAgg, Dn.part, e1, hix, f1, f2, d1, d2, hp, hv, hq, hw, p1, p2]
      · have hokp : okp pv = true := by simp [okp]; omega
        rw [hokp]
        by_cases b1 : bv < 0
        · have : okb bv = false := by simp [okb]; omega
          rw [this]
          refine ⟨fun h => by simp at h, fun _ => ?_⟩
          rw [l51_1, den_loop]
          simp [b51_0, go_nil, go_last, go_past, go_pastR, go_blkN, go_blkR, go_blkE, go_skip, go_exit, go_ret, go_scope, go_seq, go_reg, go_block, go_cond, cnd_b, go_opsN, go_ops, go_opsG, grd_b, grd_u, stp_some, fin_some, up_some, cont_some, k_call, k_mv, k_pick, k_bin, k_eqB, k_eqA, k_not, k_neg, k_conv, k_alloc, k_boxA, k_boxI, k_boxB, k_boxN, k_boxBs, k_ldR, k_ldA, k_ldI, k_ldB, k_stA, k_stI, k_stB, ldC_some, stC_some, k_mkfn, k_slc, k_slcA, k_ixA, k_ixBs, k_ixSl, k_fadr, k_fld, k_ext, k_len, k_app, k_mn, k_mx, k_nilck, k_build, k_bsl1, k_bsl2, b_add, b_sub, b_mul, b_eql, b_neq, b_lss, b_leq, b_gtr, b_geq, Dn.setLast, Dn.getLast, evalO, mapO, Dn.get, putE, keepE, TV.one, TV.isAgg, Dn.part, e1, hix, f1, f2, d1, d2, hp, hv, hq, hw, p1, p2, b1]
        · by_cases b2 : 20 < bv
          · have : okb bv = false := by simp [okb]; omega
            rw [this]
            refine ⟨fun h => by simp at h, fun _ => ?_⟩
            rw [l51_1, den_loop]
            simp [b51_0, go_nil, go_last, go_past, go_pastR, go_blkN, go_blkR, go_blkE, go_skip, go_exit, go_ret, go_scope, go_seq, go_reg, go_block, go_cond, cnd_b, go_opsN, go_ops, go_opsG, grd_b, grd_u, stp_some, fin_some, up_some, cont_some, k_call, k_mv, k_pick, k_bin, k_eqB, k_eqA, k_not, k_neg, k_conv, k_alloc, k_boxA, k_boxI, k_boxB, k_boxN, k_boxBs, k_ldR, k_ldA, k_ldI, k_ldB, k_stA, k_stI, k_stB, ldC_some, stC_some, k_mkfn, k_slc, k_slcA, k_ixA, k_ixBs, k_ixSl, k_fadr, k_fld, k_ext, k_len, k_app, k_mn, k_mx, k_nilck, k_build, k_bsl1, k_bsl2, b_add, b_sub, b_mul, b_eql, b_neq, b_lss, b_leq, b_gtr, b_geq, Dn.setLast, Dn.getLast, evalO, mapO, Dn.get, putE, keepE, TV.one, TV.isAgg, Dn.part, e1, hix, f1, f2, d1, d2, hp, hv, hq, hw, p1, p2, b1, b2]
          · have hokb : okb bv = true := by simp [okb]; omega
            rw [hokb]
            have hstep : den pg l51_1 [(0, T), (3, .i .i64 (g : Int)), (4, .i .i64 (i : Int)), (5, .b s), (6, .i .i64 (k : Int))] H = den pg l51_1 [(0, T), (3, .i .i64 (g : Int)), (4, .i .i64 (i : Int)), (5, .b (s || decide (0 < bv))), (6, .i .i64 ((k + 1 : Nat) : Int))] H := by
              rw [l51_1, den_loop]
              cases s with
              | true => simp [l51_1, b51_0, go_nil, go_last, go_past, go_pastR, go_blkN, go_blkR, go_blkE, go_skip, go_exit, go_ret, go_scope, go_seq, go_reg, go_block, go_cond, cnd_b, go_opsN, go_ops, go_opsG, grd_b, grd_u, stp_some, fin_some, up_some, cont_some, k_call, k_mv, k_pick, k_bin, k_eqB, k_eqA, k_not, k_neg, k_conv, k_alloc, k_boxA, k_boxI, k_boxB, k_boxN, k_boxBs, k_ldR, k_ldA, k_ldI, k_ldB, k_stA, k_stI, k_stB, ldC_some, stC_some, k_mkfn, k_slc, k_slcA, k_ixA, k_ixBs, k_ixSl, k_fadr, k_fld, k_ext, k_len, k_app, k_mn, k_mx, k_nilck, k_build, k_bsl1, k_bsl2, b_add, b_sub, b_mul, b_eql, b_neq, b_lss, b_leq, b_gtr, b_geq, Dn.setLast, Dn.getLast, evalO, mapO, Dn.get, putE, keepE, TV.one, TV.isAgg, Dn.part, e1, e2, hix, f1, f2, d1, d2, hp, hv, hq, hw, p1, p2, b1, b2]
              | false => simp [l51_1, b51_0, go_nil, go_last, go_past, go_pastR, go_blkN, go_blkR, go_blkE, go_skip, go_exit, go_ret, go_scope, go_seq, go_reg, go_block, go_cond, cnd_b, go_opsN, go_ops, go_opsG, grd_b, grd_u, stp_some, fin_some, up_some, cont_some, k_call, k_mv, k_pick, k_bin, k_eqB, k_eqA, k_not, k_neg, k_conv, k_alloc, k_boxA, k_boxI, k_boxB, k_boxN, k_boxBs, k_ldR, k_ldA, k_ldI, k_ldB, k_stA, k_stI, k_stB, ldC_some, stC_some, k_mkfn, k_slc, k_slcA, k_ixA, k_ixBs, k_ixSl, k_fadr, k_fld, k_ext, k_len, k_app, k_mn, k_mx, k_nilck, k_build, k_bsl1, k_bsl2, b_add, b_sub, b_mul, b_eql, b_neq, b_lss, b_leq, b_gtr, b_geq, Dn.setLast, Dn.getLast, evalO, mapO, Dn.get, putE, keepE, TV.one, TV.isAgg, Dn.part, e1, e2, hix, f1, f2, d1, d2, hp, hv, hq, hw, p1, p2, b1, b2]
            have ih := l51_1_all (pg := pg) hT hx h1 h2 hg (H := H) d (k + 1) (s || decide (0 < bv)) (by omega)
            rw [hstep]
            simpa [Bool.or_assoc] using ih

theorem okObs_ref {g : Nat} {x : Obs} : okObs g x = true ↔ x.1.length = g ∧ x.2.length = g ∧ (x.1.all okp = true ∧ x.2.all okb = true) ∧ (x.2.any fun p => decide (0 < p)) = true := by
  unfold okObs okp okb
  simp only [Bool.and_eq_true, beq_iff_eq]
  constructor
  · rintro ⟨⟨⟨⟨a, b⟩, c⟩, d⟩, e⟩; exact ⟨a, b, ⟨c, d⟩, e⟩
  · rintro ⟨a, b, ⟨c, d⟩, e⟩; exact ⟨⟨⟨⟨a, b⟩, c⟩, d⟩, e⟩

theorem l51_3_round {pg : Pg} {T : TV} {l : List Obs} (hT : Rws T l) (hl : l.length ≤ 100) {g i : Nat} {x : Obs} (hx : l[i]? = some x) (hg : g ≤ 1000) {H : Heap} :
    (okObs g x = true → den pg l51_3 [(0, T), (3, .i .i64 (g : Int)), (4, .i .i64 (i : Int))] H = den pg l51_3 [(0, T), (3, .i .i64 (g : Int)), (4, .i .i64 ((i + 1 : Nat) : Int))] H) ∧
    (okObs g x = false → den pg l51_3 [(0, T), (3, .i .i64 (g : Int)), (4, .i .i64 (i : Int))] H = some ⟨.ret, [(2, .b false)], H⟩) := by
  have hi := (List.getElem?_eq_some_iff.1 hx).1
  have e1 : ((i : Int) < (l.length : Int)) := by omega
  have e2 : wrapR .i64 ((i : Int) + 1) = .i .i64 ((i : Int) + 1) := wrapR_i64 (by omega)
  have hlen := hT.len
  obtain ⟨b, a, c, hix, ha, hc⟩ := hT.ix (pg := pg) (R := den pg) hx H
  obtain ⟨f1, f2⟩ := k_fadrP (pg := pg) (R := den pg) b a c ha.noagg hc.noagg H
  have d1 := k_ldV (pg := pg) (R := den pg) b a ha.one H
  have d2 := k_ldV (pg := pg) (R := den pg) b c hc.one H
  have la := (ha.view []).lenK
  have lc := (hc.view []).lenK
  by_cases g1 : x.1.length = g
  · by_cases g2 : x.2.length = g
    · obtain ⟨hy, hn⟩ := l51_1_all (pg := pg) hT hx g1 g2 hg (H := H) g 0 false (by omega)
      simp only [List.drop_zero, Int.natCast_zero, Bool.false_or] at hy hn
      by_cases hall : x.1.all okp = true ∧ x.2.all okb = true
      · obtain ⟨e, h1, g0, g3, g4, g5⟩ := hy hall
        cases hany : x.2.any fun p => decide (0 < p) with
        | true =>
          have : okObs g x = true := okObs_ref.2 ⟨g1, g2, hall, hany⟩
          rw [hany] at g5
          refine ⟨fun _ => ?_, fun h => (by rw [this] at h; cases h)⟩
          rw [l51_3, den_loop]
          simp [l51_3, b51_2, go_nil, go_last, go_past, go_pastR, go_blkN, go_blkR, go_blkE, go_skip, go_exit, go_ret, go_scope, go_seq, go_reg, go_block, go_cond, cnd_b, go_opsN, go_ops, go_opsG, grd_b, grd_u, stp_some, fin_some, up_some, cont_some, k_call, k_mv, k_pick, k_bin, k_eqB, k_eqA, k_not, k_neg, k_conv, k_alloc, k_boxA, k_boxI, k_boxB, k_boxN, k_boxBs, k_ldR, k_ldA, k_ldI, k_ldB, k_stA, k_stI, k_stB, ldC_some, stC_some, k_mkfn, k_slc, k_slcA, k_ixA, k_ixBs, k_ixSl, k_fadr, k_fld, k_ext, k_len, k_app, k_mn, k_mx, k_nilck, k_build, k_bsl1, k_bsl2, b_add, b_sub, b_mul, b_eql, b_neq, b_lss, b_leq, b_gtr, b_geq, Dn.setLast, Dn.getLast, evalO, mapO, Dn.get, putE, keepE, TV.one, TV.isAgg, Dn.part, e1, e2, hlen, hix, f1, f2, d1, d2, la, lc, g1, g2, go_denK (c := l51_1) rfl, h1, g0, g3, g4, g5]
        | false =>
          have : okObs g x = false := by
            rw [Bool.eq_false_iff]; intro h
            have := (okObs_ref.1 h).2.2.2
            rw [hany] at this; cases this
          rw [hany] at g5
          refine ⟨fun h => (by rw [this] at h; cases h), fun _ => ?_⟩
          rw [l51_3, den_loop]
          simp [b51_2, go_nil, go_last, go_past, go_pastR, go_blkN, go_blkR, go_blkE, go_skip, go_exit, go_ret, go_scope, go_seq, go_reg, go_block, go_cond, cnd_b, go_opsN, go_ops, go_opsG, grd_b, grd_u, stp_some, fin_some, up_some, cont_some, k_call, k_mv, k_pick, k_bin, k_eqB, k_eqA, k_not, k_neg, k_conv, k_alloc, k_boxA, k_boxI, k_boxB, k_boxN, k_boxBs, k_ldR, k_ldA, k_ldI, k_ldB, k_stA, k_stI, k_stB, ldC_some, stC_some, k_mkfn, k_slc, k_slcA, k_ixA, k_ixBs, k_ixSl, k_fadr, k_fld, k_ext, k_len, k_app, k_mn, k_mx, k_nilck, k_build, k_bsl1, k_bsl2, b_add, b_sub, b_mul, b_eql, b_neq, b_lss, b_leq, b_gtr, b_geq, Dn.setLast, Dn.getLast, evalO, mapO, Dn.get, putE, keepE, TV.one, TV.isAgg, Dn.part, e1, e2, hlen, hix, f1, f2, d1, d2, la, lc, g1, g2, go_denK (c := l51_1) rfl, h1, g0, g3, g4, g5]
      · have : okObs g x = false := by
          rw [Bool.eq_false_iff]; intro h
          exact hall (okObs_ref.1 h).2.2.1
        have h1 := hn hall
        refine ⟨fun h => (by rw [this] at h; cases h), fun _ => ?_⟩
        rw [l51_3, den_loop]
        simp [b51_2, go_nil, go_last, go_past, go_pastR, go_blkN, go_blkR, go_blkE, go_skip, go_exit, go_ret, go_scope, go_seq, go_reg, go_block, go_cond, cnd_b, go_opsN, go_ops, go_opsG, grd_b, grd_u, stp_some, fin_some, up_some, cont_some, k_call, k_mv, k_pick, k_bin, k_eqB, k_eqA, k_not, k_neg, k_conv, k_alloc, k_boxA, k_boxI, k_boxB, k_boxN, k_boxBs, k_ldR, k_ldA, k_ldI, k_ldB, k_stA, k_stI, k_stB, ldC_some, stC_some, k_mkfn, k_slc, k_slcA, k_ixA, k_ixBs, k_ixSl, k_fadr, k_fld, k_ext, k_len, k_app, k_mn, k_mx, k_nilck, k_build, k_bsl1, k_bsl2, b_add, b_sub, b_mul, b_eql, b_neq, b_lss, b_leq, b_gtr, b_geq, Dn.setLast, Dn.getLast, evalO, mapO, Dn.get, putE, keepE, TV.one, TV.isAgg, Dn.part, e1, e2, hlen, hix, f1, f2, d1, d2, la, lc, g1, g2, go_denK (c := l51_1) rfl, h1]
    · have : okObs g x = false := by
        rw [Bool.eq_false_iff]; intro h
        exact g2 (okObs_ref.1 h).2.1
      have i2 : ¬ ((x.2.length : Int) = (g : Int)) := by omega
      have b2 : ((x.2.length : Int) != (g : Int)) = true := by simpa using i2
      refine ⟨fun h => (by rw [this] at h; cases h), fun _ => ?_⟩
      rw [l51_3, den_loop]
      simp [b51_2, go_nil, go_last, go_past, go_pastR, go_blkN, go_blkR, go_blkE, go_skip, go_exit, go_ret, go_scope, go_seq, go_reg, go_block, go_cond, cnd_b, go_opsN, go_ops, go_opsG, grd_b, grd_u, stp_some, fin_some, up_some, cont_some, k_call, k_mv, k_pick, k_bin, k_eqB, k_eqA, k_not, k_neg, k_conv, k_alloc, k_boxA, k_boxI, k_boxB, k_boxN, k_boxBs, k_ldR, k_ldA, k_ldI, k_ldB, k_stA, k_stI, k_stB, ldC_some, stC_some, k_mkfn, k_slc, k_slcA, k_ixA, k_ixBs, k_ixSl, k_fadr, k_fld, k_ext, k_len, k_app, k_mn, k_mx, k_nilck, k_build, k_bsl1, k_bsl2, b_add, b_sub, b_mul, b_eql, b_neq, b_lss, b_leq, b_gtr, b_geq, Dn.setLast, Dn.getLast, evalO, mapO, Dn.get, putE, keepE, TV.one, TV.isAgg, Dn.part, e1, e2, hlen, hix, f1, f2, d1, d2, la, lc, g1, i2, b2]
  · have : okObs g x = false := by
      rw [Bool.eq_false_iff]; intro h
      exact g1 (okObs_ref.1 h).1
    have i1 : ¬ ((x.1.length : Int) = (g : Int)) := by omega
    have b1 : ((x.1.length : Int) != (g : Int)) = true := by simpa using i1
    refine ⟨fun h => (by rw [this] at h; cases h), fun _ => ?_⟩
    rw [l51_3, den_loop]
    simp [b51_2, go_nil, go_last, go_past, go_pastR, go_blkN, go_blkR, go_blkE, go_skip, go_exit, go_ret, go_scope, go_seq, go_reg, go_block, go_cond, cnd_b, go_opsN, go_ops, go_opsG, grd_b, grd_u, stp_some, fin_some, up_some, cont_some, k_call, k_mv, k_pick, k_bin, k_eqB, k_eqA, k_not, k_neg, k_conv, k_alloc, k_boxA, k_boxI, k_boxB, k_boxN, k_boxBs, k_ldR, k_ldA, k_ldI, k_ldB, k_stA, k_stI, k_stB, ldC_some, stC_some, k_mkfn, k_slc, k_slcA, k_ixA, k_ixBs, k_ixSl, k_fadr, k_fld, k_ext, k_len, k_app, k_mn, k_mx, k_nilck, k_build, k_bsl1, k_bsl2, b_add, b_sub, b_mul, b_eql, b_neq, b_lss, b_leq, b_gtr, b_geq, Dn.setLast, Dn.getLast, evalO, mapO, Dn.get, putE, keepE, TV.one, TV.isAgg, Dn.part, e1, e2, hlen, hix, f1, f2, d1, d2, la, lc, i1, b1]

theorem l51_3_all {pg : Pg} {T : TV} {l : List Obs} (hT : Rws T l) (hl : l.length ≤ 100) {g : Nat} (hg : g ≤ 1000) {H : Heap} : ∀ (k i : Nat), i + k = l.length →
    ((l.drop i).all (okObs g) = true → ∃ e, den pg l51_3 [(0, T), (3, .i .i64 (g : Int)), (4, .i .i64 (i : Int))] H = some ⟨.exit 0, e, H⟩ ∧ Dn.get e 3 = some (.i .i64 (g : Int))) ∧
    ((l.drop i).all (okObs g) = false → den pg l51_3 [(0, T), (3, .i .i64 (g : Int)), (4, .i .i64 (i : Int))] H = some ⟨.ret, [(2, .b false)], H⟩)
  | 0, i, h => by
    have e1 : ¬ ((i : Int) < (l.length : Int)) := by omega
    have hlen := hT.len
    rw [List.drop_eq_nil_of_le (by omega)]
    refine ⟨fun _ => ⟨[(0, T), (3, .i .i64 (g : Int)), (4, .i .i64 (i : Int)), (25, .b false)], ?_, rfl⟩, fun h => by simp at h⟩
    rw [l51_3, den_loop]
    simp [b51_2, go_nil, go_last, go_past, go_pastR, go_blkN, go_blkR, go_blkE, go_skip, go_exit, go_ret, go_scope, go_seq, go_reg, go_block, go_cond, cnd_b, go_opsN, go_ops, go_opsG, grd_b, grd_u, stp_some, fin_some, up_some, cont_some, k_call, k_mv, k_pick, k_bin, k_eqB, k_eqA, k_not, k_neg, k_conv, k_alloc, k_boxA, k_boxI, k_boxB, k_boxN, k_boxBs, k_ldR, k_ldA, k_ldI, k_ldB, k_stA, k_stI, k_stB, ldC_some, stC_some, k_mkfn, k_slc, k_slcA, k_ixA, k_ixBs, k_ixSl, k_fadr, k_fld, k_ext, k_len, k_app, k_mn, k_mx, k_nilck, k_build, k_bsl1, k_bsl2, b_add, b_sub, b_mul, b_eql, b_neq, b_lss, b_leq, b_gtr, b_geq, Dn.setLast, Dn.getLast, evalO, mapO, Dn.get, putE, keepE, TV.one, TV.isAgg, Dn.part, hlen, e1]
  | k + 1, i, h => by
    have hi : i < l.length := by omega
    obtain ⟨h1, h2⟩ := l51_3_round (pg := pg) hT hl (List.getElem?_eq_getElem hi) hg (H := H)
    rw [List.drop_eq_getElem_cons hi, List.all_cons]
    cases ho : okObs g l[i] with
    | true =>
      have ih := l51_3_all (pg := pg) hT hl hg (H := H) k (i + 1) (by omega)
      rw [h1 ho]
      simpa using ih
    | false => exact ⟨fun h => by simp at h, fun _ => h2 ho⟩

theorem fn51 {pg : Pg} (hF : Free pg) {T : TV} {l : List Obs} (hT : Rws T l) (hl : l.length ≤ 100) (hs : ∀ x ∈ l, x.1.length ≤ 1000) : PFn pg 51 [T] (.b (market l)) := by
  have hlen := hT.len
  have hd : pg.F 51 = some d51 := by rw [hF.F]; rfl
  by_cases h1 : l.length < 1
  · have e1 : ((l.length : Int) < 1) := by omega
    have : market l = false := by
      rw [Bool.eq_false_iff]; intro h
      have := (market_iff.1 h).n1
      omega
    rw [this]
    refine .of1 (x := .ret) (e := [(2, .b false)]) (H' := []) (hF.S _ _ (by decide)) hd rfl ?_ (.inl rfl) rfl (by simp [sn_i, sn_b, sn_nil, sn8_i, sn8_b, sn8_nil, sn7_i, sn7_b, sn_sl, sn8_sl, slB_some, sn_tup, sn_agg, sn8_agg, mapO, elems])
    simp [d51, c51, zipE, go_nil, go_last, go_past, go_pastR, go_blkN, go_blkR, go_blkE, go_skip, go_exit, go_ret, go_scope, go_seq, go_reg, go_block, go_cond, cnd_b, go_opsN, go_ops, go_opsG, grd_b, grd_u, stp_some, fin_some, up_some, cont_some, k_call, k_mv, k_pick, k_bin, k_eqB, k_eqA, k_not, k_neg, k_conv, k_alloc, k_boxA, k_boxI, k_boxB, k_boxN, k_boxBs, k_ldR, k_ldA, k_ldI, k_ldB, k_stA, k_stI, k_stB, ldC_some, stC_some, k_mkfn, k_slc, k_slcA, k_ixA, k_ixBs, k_ixSl, k_fadr, k_fld, k_ext, k_len, k_app, k_mn, k_mx, k_nilck, k_build, k_bsl1, k_bsl2, b_add, b_sub, b_mul, b_eql, b_neq, b_lss, b_leq, b_gtr, b_geq, Dn.setLast, Dn.getLast, evalO, mapO, Dn.get, putE, keepE, TV.one, TV.isAgg, Dn.part, hlen, e1]
  · by_cases h5 : l.length ≤ 5
    · have e1 : ¬ ((l.length : Int) < 1) := by omega
      have e5 : ¬ (5 < (l.length : Int)) := by omega
      obtain ⟨x, r, hxr⟩ : ∃ x r, l = x :: r := by
        cases l with
        | nil => simp at h1
        | cons x r => exact ⟨x, r, rfl⟩
      have hgo : goodsOf l = x.1.length := by rw [hxr]; rfl
      obtain ⟨b, a, c, hix, ha, hc⟩ := hT.ix (pg := pg) (R := den pg) (i := 0) (x := x) (by rw [hxr]; rfl) []
      obtain ⟨f1, f2⟩ := k_fadrP (pg := pg) (R := den pg) b a c ha.noagg hc.noagg []
      have d1 := k_ldV (pg := pg) (R := den pg) b a ha.one []
      have la := (ha.view []).lenK
      simp only [Int.natCast_zero] at hix
      obtain ⟨hy, hn⟩ := l51_3_all (pg := pg) hT hl (g := x.1.length) (hs x (by rw [hxr]; simp)) (H := []) l.length 0 (by omega)
      simp only [List.drop_zero, Int.natCast_zero] at hy hn
      have hm : market l = (decide (1 ≤ x.1.length) && decide (x.1.length ≤ 3) && l.all (okObs x.1.length)) := by
        simp only [market, hgo]
        have a1 : 1 ≤ l.length := by omega
        have a2 : l.length ≤ 5 := h5
        simp only [a1, a2, decide_true, Bool.true_and]
      rw [hm]
      cases hall : l.all (okObs x.1.length) with
      | true =>
        obtain ⟨e, h8, g3⟩ := hy hall
        by_cases q1 : 1 ≤ x.1.length
        · have e6 : (1 ≤ (x.1.length : Int)) := by omega
          by_cases q2 : x.1.length ≤ 3
          · have e7 : ((x.1.length : Int) ≤ 3) := by omega
            simp only [q1, q2, decide_true, Bool.and_self]
            refine .of1 (x := .ret) (e := [(2, .b true)]) (H' := []) (hF.S _ _ (by decide)) hd rfl ?_ (.inl rfl) rfl (by simp [sn_i, sn_b, sn_nil, sn8_i, sn8_b, sn8_nil, sn7_i, sn7_b, sn_sl, sn8_sl, slB_some, sn_tup, sn_agg, sn8_agg, mapO, elems])
            simp [d51, c51, zipE, go_nil, go_last, go_past, go_pastR, go_blkN, go_blkR, go_blkE, go_skip, go_exit, go_ret, go_scope, go_seq, go_reg, go_block, go_cond, cnd_b, go_opsN, go_ops, go_opsG, grd_b, grd_u, stp_some, fin_some, up_some, cont_some, k_call, k_mv, k_pick, k_bin, k_eqB, k_eqA, k_not, k_neg, k_conv, k_alloc, k_boxA, k_boxI, k_boxB, k_boxN, k_boxBs, k_ldR, k_ldA, k_ldI, k_ldB, k_stA, k_stI, k_stB, ldC_some, stC_some, k_mkfn, k_slc, k_slcA, k_ixA, k_ixBs, k_ixSl, k_fadr, k_fld, k_ext, k_len, k_app, k_mn, k_mx, k_nilck, k_build, k_bsl1, k_bsl2, b_add, b_sub, b_mul, b_eql, b_neq, b_lss, b_leq, b_gtr, b_geq, Dn.setLast, Dn.getLast, evalO, mapO, Dn.get, putE, keepE, TV.one, TV.isAgg, Dn.part, hlen, e1, e5, hix, f1, d1, la, e6, e7, go_denK (c := l51_3) rfl, h8, g3]
          · have e7 : ¬ ((x.1.length : Int) ≤ 3) := by omega
            simp only [q1, q2, decide_true, decide_false, Bool.and_false, Bool.false_and, Bool.and_true]
            refine .of1 (x := .ret) (e := [(2, .b false)]) (H' := []) (hF.S _ _ (by decide)) hd rfl ?_ (.inl rfl) rfl (by simp [sn_i, sn_b, sn_nil, sn8_i, sn8_b, sn8_nil, sn7_i, sn7_b, sn_sl, sn8_sl, slB_some, sn_tup, sn_agg, sn8_agg, mapO, elems])
            simp [d51, c51, zipE, go_nil, go_last, go_past, go_pastR, go_blkN, go_blkR, go_blkE, go_skip, go_exit, go_ret, go_scope, go_seq, go_reg, go_block, go_cond, cnd_b, go_opsN, go_ops, go_opsG, grd_b, grd_u, stp_some, fin_some, up_some, cont_some, k_call, k_mv, k_pick, k_bin, k_eqB, k_eqA, k_not, k_neg, k_conv, k_alloc, k_boxA, k_boxI, k_boxB, k_boxN, k_boxBs, k_ldR, k_ldA, k_ldI, k_ldB, k_stA, k_stI, k_stB, ldC_some, stC_some, k_mkfn, k_slc, k_slcA, k_ixA, k_ixBs, k_ixSl, k_fadr, k_fld, k_ext, k_len, k_app, k_mn, k_mx, k_nilck, k_build, k_bsl1, k_bsl2, b_add, b_sub, b_mul, b_eql, b_neq, b_lss, b_leq, b_gtr, b_geq, Dn.setLast, Dn.getLast, evalO, mapO, Dn.get, putE, keepE, TV.one, TV.isAgg, Dn.part, hlen, e1, e5, hix, f1, d1, la, e6, e7, go_denK (c := l51_3) rfl, h8, g3]
        · have e6 : ¬ (1 ≤ (x.1.length : Int)) := by omega
          simp only [q1, decide_false, Bool.false_and]
          refine .of1 (x := .ret) (e := [(2, .b false)]) (H' := []) (hF.S _ _ (by decide)) hd rfl ?_ (.inl rfl) rfl (by simp [sn_i, sn_b, sn_nil, sn8_i, sn8_b, sn8_nil, sn7_i, sn7_b, sn_sl, sn8_sl, slB_some, sn_tup, sn_agg, sn8_agg, mapO, elems])
          simp [d51, c51, zipE, go_nil, go_last, go_past, go_pastR, go_blkN, go_blkR, go_blkE, go_skip, go_exit, go_ret, go_scope, go_seq, go_reg, go_block, go_cond, cnd_b, go_opsN, go_ops, go_opsG, grd_b, grd_u, stp_some, fin_some, up_some, cont_some, k_call, k_mv, k_pick, k_bin, k_eqB, k_eqA, k_not, k_neg, k_conv, k_alloc, k_boxA, k_boxI, k_boxB, k_boxN, k_boxBs, k_ldR, k_ldA, k_ldI, k_ldB, k_stA, k_stI, k_stB, ldC_some, stC_some, k_mkfn, k_slc, k_slcA, k_ixA, k_ixBs, k_ixSl, k_fadr, k_fld, k_ext, k_len, k_app, k_mn, k_mx, k_nilck, k_build, k_bsl1, k_bsl2, b_add, b_sub, b_mul, b_eql, b_neq, b_lss, b_leq, b_gtr, b_geq, Dn.setLast, Dn.getLast, evalO, mapO, Dn.get, putE, keepE, TV.one, TV.isAgg, Dn.part, hlen, e1, e5, hix, f1, d1, la, e6, go_denK (c := l51_3) rfl, h8, g3]
      | false =>
        have h8 := hn hall
        rw [Bool.and_false]
        refine .of1 (x := .ret) (e := [(2, .b false)]) (H' := []) (hF.S _ _ (by decide)) hd rfl ?_ (.inl rfl) rfl (by simp [sn_i, sn_b, sn_nil, sn8_i, sn8_b, sn8_nil, sn7_i, sn7_b, sn_sl, sn8_sl, slB_some, sn_tup, sn_agg, sn8_agg, mapO, elems])
        simp [d51, c51, zipE, go_nil, go_last, go_past, go_pastR, go_blkN, go_blkR, go_blkE, go_skip, go_exit, go_ret, go_scope, go_seq, go_reg, go_block, go_cond, cnd_b, go_opsN, go_ops, go_opsG, grd_b, grd_u, stp_some, fin_some, up_some, cont_some, k_call, k_mv, k_pick, k_bin, k_eqB, k_eqA, k_not, k_neg, k_conv, k_alloc, k_boxA, k_boxI, k_boxB, k_boxN, k_boxBs, k_ldR, k_ldA, k_ldI, k_ldB, k_stA, k_stI, k_stB, ldC_some, stC_some, k_mkfn, k_slc, k_slcA, k_ixA, k_ixBs, k_ixSl, k_fadr, k_fld, k_ext, k_len, k_app, k_mn, k_mx, k_nilck, k_build, k_bsl1, k_bsl2, b_add, b_sub, b_mul, b_eql, b_neq, b_lss, b_leq, b_gtr, b_geq, Dn.setLast, Dn.getLast, evalO, mapO, Dn.get, putE, keepE, TV.one, TV.isAgg, Dn.part, hlen, e1, e5, hix, f1, d1, la, go_denK (c := l51_3) rfl, h8]
    · have e1 : ¬ ((l.length : Int) < 1) := by omega
      have e5 : (5 < (l.length : Int)) := by omega
      have : market l = false := by
        rw [Bool.eq_false_iff]; intro h
        exact h5 (market_iff.1 h).n5
      rw [this]
      refine .of1 (x := .ret) (e := [(2, .b false)]) (H' := []) (hF.S _ _ (by decide)) hd rfl ?_ (.inl rfl) rfl (by simp [sn_i, sn_b, sn_nil, sn8_i, sn8_b, sn8_nil, sn7_i, sn7_b, sn_sl, sn8_sl, slB_some, sn_tup, sn_agg, sn8_agg, mapO, elems])
      simp [d51, c51, zipE, go_nil, go_last, go_past, go_pastR, go_blkN, go_blkR, go_blkE, go_skip, go_exit, go_ret, go_scope, go_seq, go_reg, go_block, go_cond, cnd_b, go_opsN, go_ops, go_opsG, grd_b, grd_u, stp_some, fin_some, up_some, cont_some, k_call, k_mv, k_pick, k_bin, k_eqB, k_eqA, k_not, k_neg, k_conv, k_alloc, k_boxA, k_boxI, k_boxB, k_boxN, k_boxBs, k_ldR, k_ldA, k_ldI, k_ldB, k_stA, k_stI, k_stB, ldC_some, stC_some, k_mkfn, k_slc, k_slcA, k_ixA, k_ixBs, k_ixSl, k_fadr, k_fld, k_ext, k_len, k_app, k_mn, k_mx, k_nilck, k_build, k_bsl1, k_bsl2, b_add, b_sub, b_mul, b_eql, b_neq, b_lss, b_leq, b_gtr, b_geq, Dn.setLast, Dn.getLast, evalO, mapO, Dn.get, putE, keepE, TV.one, TV.isAgg, Dn.part, hlen, e1, e5]

theorem call51 {pg : Pg} (hF : Free pg) {T : TV} {l : List Obs} (hT : Rws T l) (hl : l.length ≤ 100) (hs : ∀ x ∈ l, x.1.length ≤ 1000) (H : Heap) : callRun pg (den pg) (.pu []) [.fn 51 [] [], T] H = some (.b (market l), H) := by
  obtain ⟨T', h1, h2⟩ := hT.snap H 5
  exact PFn.call (fn51 hF h2 hl hs) (args := [T]) (by simp [snapArgs, h1])

end Go.Proofs.Tryd.Dn

/-
  PriceChecks: each function returns the error; the whole run.
-/

namespace Go.Proofs.Tryd.Dn
open Go.Dn

section
variable {pg : Pg} (hF : Free pg) {X : List Obs} (hm : market X = false) (q1 : X.length ≤ 100) (q2 : ∀ x ∈ X, x.1.length ≤ 1000 ∧ x.2.length ≤ 1000)

theorem snY (X : List Obs) (H : Heap) : Dn.snap .borrow H 9 ((elS false).lt false X) = some ((elS true).lt true X) := snap_pairs false false H 5 X

include hF hm q1 q2

theorem e34 (H : Heap) : callRun pg (den pg) (.pu []) [.fn 34 [] [], (elS false).lt false X] H = some (.tup [.nilsl, .i .i64 90], H) := by
  have b := fun H P => body53e (P := P) hF hm (elS_RV true true X) q1 q2 (H := H)
  refine PFn.call (.of2 (xs := [(elS true).lt true X]) (x := .ret) (e := [(2, .nilsl), (3, .i .i64 90)]) (H' := []) (vs := [.nilsl, .i .i64 90]) (hF.S _ _ (by decide)) (d := d34) (by rw [hF.F]; rfl) rfl ?_ (.inl rfl) rfl (by simp) (by simp [sn_i, sn_b, sn_nil, sn8_i, sn8_b, sn8_nil, sn7_i, sn7_b, sn_sl, sn8_sl, slB_some, sn_tup, sn_agg, sn8_agg, mapO, elems])) (args := [(elS false).lt false X]) (by simp [snapArgs, snY])
  simp [d34, c34, zipE, go_nil, go_last, go_past, go_pastR, go_blkN, go_blkR, go_blkE, go_skip, go_exit, go_ret, go_scope, go_seq, go_reg, go_block, go_cond, cnd_b, go_opsN, go_ops, go_opsG, grd_b, grd_u, stp_some, fin_some, up_some, cont_some, k_call, k_mv, k_pick, k_bin, k_eqB, k_eqA, k_not, k_neg, k_conv, k_alloc, k_boxA, k_boxI, k_boxB, k_boxN, k_boxBs, k_ldR, k_ldA, k_ldI, k_ldB, k_stA, k_stI, k_stB, ldC_some, stC_some, k_mkfn, k_slc, k_slcA, k_ixA, k_ixBs, k_ixSl, k_fadr, k_fld, k_ext, k_len, k_app, k_mn, k_mx, k_nilck, k_build, k_bsl1, k_bsl2, b_add, b_sub, b_mul, b_eql, b_neq, b_lss, b_leq, b_gtr, b_geq, Dn.setLast, Dn.getLast, evalO, mapO, Dn.get, putE, keepE, TV.one, TV.isAgg, Dn.part, sh_fn, b]

theorem e38 (H : Heap) : callRun pg (den pg) (.pu []) [.fn 38 [] [], (elS false).lt false X] H = some (.tup [.nilsl, .i .i64 90], H) := by
  have b := fun H P => body53e (P := P) hF hm (elS_RV true true X) q1 q2 (H := H)
  refine PFn.call (.of2 (xs := [(elS true).lt true X]) (x := .ret) (e := [(2, .nilsl), (3, .i .i64 90)]) (H' := []) (vs := [.nilsl, .i .i64 90]) (hF.S _ _ (by decide)) (d := d38) (by rw [hF.F]; rfl) rfl ?_ (.inl rfl) rfl (by simp) (by simp [sn_i, sn_b, sn_nil, sn8_i, sn8_b, sn8_nil, sn7_i, sn7_b, sn_sl, sn8_sl, slB_some, sn_tup, sn_agg, sn8_agg, mapO, elems])) (args := [(elS false).lt false X]) (by simp [snapArgs, snY])
  simp [d38, c38, zipE, go_nil, go_last, go_past, go_pastR, go_blkN, go_blkR, go_blkE, go_skip, go_exit, go_ret, go_scope, go_seq, go_reg, go_block, go_cond, cnd_b, go_opsN, go_ops, go_opsG, grd_b, grd_u, stp_some, fin_some, up_some, cont_some, k_call, k_mv, k_pick, k_bin, k_eqB, k_eqA, k_not, k_neg, k_conv, k_alloc, k_boxA, k_boxI, k_boxB, k_boxN, k_boxBs, k_ldR, k_ldA, k_ldI, k_ldB, k_stA, k_stI, k_stB, ldC_some, stC_some, k_mkfn, k_slc, k_slcA, k_ixA, k_ixBs, k_ixSl, k_fadr, k_fld, k_ext, k_len, k_app, k_mn, k_mx, k_nilck, k_build, k_bsl1, k_bsl2, b_add, b_sub, b_mul, b_eql, b_neq, b_lss, b_leq, b_gtr, b_geq, Dn.setLast, Dn.getLast, evalO, mapO, Dn.get, putE, keepE, TV.one, TV.isAgg, Dn.part, sh_fn, b]

theorem e25 (H : Heap) : callRun pg (den pg) (.pu []) [.fn 25 [] [], (elS false).lt false X] H = some (.tup [.nilsl, .b false, .i .i64 90], H) := by
  have b := fun H P => body53e (P := P) hF hm (elS_RV true true X) q1 q2 (H := H)
  refine PFn.call (.of2 (xs := [(elS true).lt true X]) (x := .ret) (e := [(2, .nilsl), (3, .b false), (4, .i .i64 90)]) (H' := []) (vs := [.nilsl, .b false, .i .i64 90]) (hF.S _ _ (by decide)) (d := d25) (by rw [hF.F]; rfl) rfl ?_ (.inl rfl) rfl (by simp) (by simp [sn_i, sn_b, sn_nil, sn8_i, sn8_b, sn8_nil, sn7_i, sn7_b, sn_sl, sn8_sl, slB_some, sn_tup, sn_agg, sn8_agg, mapO, elems])) (args := [(elS false).lt false X]) (by simp [snapArgs, snY])
  simp [d25, c25, zipE, go_nil, go_last, go_past, go_pastR, go_blkN, go_blkR, go_blkE, go_skip, go_exit, go_ret, go_scope, go_seq, go_reg, go_block, go_cond, cnd_b, go_opsN, go_ops, go_opsG, grd_b, grd_u, stp_some, fin_some, up_some, cont_some, k_call, k_mv, k_pick, k_bin, k_eqB, k_eqA, k_not, k_neg, k_conv, k_alloc, k_boxA, k_boxI, k_boxB, k_boxN, k_boxBs, k_ldR, k_ldA, k_ldI, k_ldB, k_stA, k_stI, k_stB, ldC_some, stC_some, k_mkfn, k_slc, k_slcA, k_ixA, k_ixBs, k_ixSl, k_fadr, k_fld, k_ext, k_len, k_app, k_mn, k_mx, k_nilck, k_build, k_bsl1, k_bsl2, b_add, b_sub, b_mul, b_eql, b_neq, b_lss, b_leq, b_gtr, b_geq, Dn.setLast, Dn.getLast, evalO, mapO, Dn.get, putE, keepE, TV.one, TV.isAgg, Dn.part, sh_fn, b]

theorem e30 (id : Nat) (H : Heap) (hi : H[id]? = some (.cells [.i .i64 0, .i .i64 1] false)) : callRun pg (den pg) (.pu []) [.fn 30 [] [], (elS false).lt false X, .sl id 0 1 false 2 (some 2)] H = some (.tup [.b false, .i .i64 90], H) := by
  have b := fun H P => body53e (P := P) hF hm (elS_RV true true X) q1 q2 (H := H)
  refine PFn.call (.of2 (xs := [(elS true).lt true X, .bs true 1 [.i .i64 0, .i .i64 1]]) (x := .ret) (e := [(4, .b false), (5, .i .i64 90)]) (H' := []) (vs := [.b false, .i .i64 90]) (hF.S _ _ (by decide)) (d := d30) (by rw [hF.F]; rfl) rfl ?_ (.inl rfl) rfl (by simp) (by simp [sn_i, sn_b, sn_nil, sn8_i, sn8_b, sn8_nil, sn7_i, sn7_b, sn_sl, sn8_sl, slB_some, sn_tup, sn_agg, sn8_agg, mapO, elems])) (args := [(elS false).lt false X, .sl id 0 1 false 2 (some 2)]) (by simp [snapArgs, snY, sn_i, sn_b, sn_nil, sn8_i, sn8_b, sn8_nil, sn7_i, sn7_b, sn_sl, sn8_sl, slB_some, sn_tup, sn_agg, sn8_agg, mapO, elems, hi])
  simp [d30, c30, zipE, go_nil, go_last, go_past, go_pastR, go_blkN, go_blkR, go_blkE, go_skip, go_exit, go_ret, go_scope, go_seq, go_reg, go_block, go_cond, cnd_b, go_opsN, go_ops, go_opsG, grd_b, grd_u, stp_some, fin_some, up_some, cont_some, k_call, k_mv, k_pick, k_bin, k_eqB, k_eqA, k_not, k_neg, k_conv, k_alloc, k_boxA, k_boxI, k_boxB, k_boxN, k_boxBs, k_ldR, k_ldA, k_ldI, k_ldB, k_stA, k_stI, k_stB, ldC_some, stC_some, k_mkfn, k_slc, k_slcA, k_ixA, k_ixBs, k_ixSl, k_fadr, k_fld, k_ext, k_len, k_app, k_mn, k_mx, k_nilck, k_build, k_bsl1, k_bsl2, b_add, b_sub, b_mul, b_eql, b_neq, b_lss, b_leq, b_gtr, b_geq, Dn.setLast, Dn.getLast, evalO, mapO, Dn.get, putE, keepE, TV.one, TV.isAgg, Dn.part, sh_fn, b]

theorem e31 (id : Nat) (H : Heap) (hi : H[id]? = some (.cells [.i .i64 0, .i .i64 1] false)) : callRun pg (den pg) (.pu []) [.fn 31 [] [], (elS false).lt false X, .sl id 0 1 false 2 (some 2)] H = some (.tup [.i .i64 0, .i .i64 90], H) := by
  have b := fun H P => body53e (P := P) hF hm (elS_RV true true X) q1 q2 (H := H)
  refine PFn.call (.of2 (xs := [(elS true).lt true X, .bs true 1 [.i .i64 0, .i .i64 1]]) (x := .ret) (e := [(4, .i .i64 0), (5, .i .i64 90)]) (H' := []) (vs := [.i .i64 0, .i .i64 90]) (hF.S _ _ (by decide)) (d := d31) (by rw [hF.F]; rfl) rfl ?_ (.inl rfl) rfl (by simp) (by simp [sn_i, sn_b, sn_nil, sn8_i, sn8_b, sn8_nil, sn7_i, sn7_b, sn_sl, sn8_sl, slB_some, sn_tup, sn_agg, sn8_agg, mapO, elems])) (args := [(elS false).lt false X, .sl id 0 1 false 2 (some 2)]) (by simp [snapArgs, snY, sn_i, sn_b, sn_nil, sn8_i, sn8_b, sn8_nil, sn7_i, sn7_b, sn_sl, sn8_sl, slB_some, sn_tup, sn_agg, sn8_agg, mapO, elems, hi])
  simp [d31, c31, zipE, go_nil, go_last, go_past, go_pastR, go_blkN, go_blkR, go_blkE, go_skip, go_exit, go_ret, go_scope, go_seq, go_reg, go_block, go_cond, cnd_b, go_opsN, go_ops, go_opsG, grd_b, grd_u, stp_some, fin_some, up_some, cont_some, k_call, k_mv, k_pick, k_bin, k_eqB, k_eqA, k_not, k_neg, k_conv, k_alloc, k_boxA, k_boxI, k_boxB, k_boxN, k_boxBs, k_ldR, k_ldA, k_ldI, k_ldB, k_stA, k_stI, k_stB, ldC_some, stC_some, k_mkfn, k_slc, k_slcA, k_ixA, k_ixBs, k_ixSl, k_fadr, k_fld, k_ext, k_len, k_app, k_mn, k_mx, k_nilck, k_build, k_bsl1, k_bsl2, b_add, b_sub, b_mul, b_eql, b_neq, b_lss, b_leq, b_gtr, b_geq, Dn.setLast, Dn.getLast, evalO, mapO, Dn.get, putE, keepE, TV.one, TV.isAgg, Dn.part, sh_fn, b]

theorem e35 (H : Heap) : callRun pg (den pg) (.pu []) [.fn 35 [] [], (elS false).lt false X] H = some (.tup [.nilsl, .nilsl, .b false, .i .i64 90], H) := by
  have b := fun H P => body53e (P := P) hF hm (elS_RV true true X) q1 q2 (H := H)
  refine PFn.call (.of2 (xs := [(elS true).lt true X]) (x := .ret) (e := [(2, .nilsl), (3, .nilsl), (4, .b false), (5, .i .i64 90)]) (H' := []) (vs := [.nilsl, .nilsl, .b false, .i .i64 90]) (hF.S _ _ (by decide)) (d := d35) (by rw [hF.F]; rfl) rfl ?_ (.inl rfl) rfl (by simp) (by simp [sn_i, sn_b, sn_nil, sn8_i, sn8_b, sn8_nil, sn7_i, sn7_b, sn_sl, sn8_sl, slB_some, sn_tup, sn_agg, sn8_agg, mapO, elems])) (args := [(elS false).lt false X]) (by simp [snapArgs, snY])
  simp [d35, c35, zipE, go_nil, go_last, go_past, go_pastR, go_blkN, go_blkR, go_blkE, go_skip, go_exit, go_ret, go_scope, go_seq, go_reg, go_block, go_cond, cnd_b, go_opsN, go_ops, go_opsG, grd_b, grd_u, stp_some, fin_some, up_some, cont_some, k_call, k_mv, k_pick, k_bin, k_eqB, k_eqA, k_not, k_neg, k_conv, k_alloc, k_boxA, k_boxI, k_boxB, k_boxN, k_boxBs, k_ldR, k_ldA, k_ldI, k_ldB, k_stA, k_stI, k_stB, ldC_some, stC_some, k_mkfn, k_slc, k_slcA, k_ixA, k_ixBs, k_ixSl, k_fadr, k_fld, k_ext, k_len, k_app, k_mn, k_mx, k_nilck, k_build, k_bsl1, k_bsl2, b_add, b_sub, b_mul, b_eql, b_neq, b_lss, b_leq, b_gtr, b_geq, Dn.setLast, Dn.getLast, evalO, mapO, Dn.get, putE, keepE, TV.one, TV.isAgg, Dn.part, sh_fn, b]

theorem e43 (H : Heap) : callRun pg (den pg) (.pu []) [.fn 43 [] [], (elS false).lt false X, .nilsl, .nilsl] H = some (.tup [.b false, .i .i64 90], H) := by
  have b := fun H P => body53e (P := P) hF hm (elS_RV true true X) q1 q2 (H := H)
  refine PFn.call (.of2 (xs := [(elS true).lt true X, .nilsl, .nilsl]) (x := .ret) (e := [(6, .b false), (7, .i .i64 90)]) (H' := []) (vs := [.b false, .i .i64 90]) (hF.S _ _ (by decide)) (d := d43) (by rw [hF.F]; rfl) rfl ?_ (.inl rfl) rfl (by simp) (by simp [sn_i, sn_b, sn_nil, sn8_i, sn8_b, sn8_nil, sn7_i, sn7_b, sn_sl, sn8_sl, slB_some, sn_tup, sn_agg, sn8_agg, mapO, elems])) (args := [(elS false).lt false X, .nilsl, .nilsl]) (by simp [snapArgs, snY, sn_i, sn_b, sn_nil, sn8_i, sn8_b, sn8_nil, sn7_i, sn7_b, sn_sl, sn8_sl, slB_some, sn_tup, sn_agg, sn8_agg, mapO, elems])
  simp [d43, c43, zipE, go_nil, go_last, go_past, go_pastR, go_blkN, go_blkR, go_blkE, go_skip, go_exit, go_ret, go_scope, go_seq, go_reg, go_block, go_cond, cnd_b, go_opsN, go_ops, go_opsG, grd_b, grd_u, stp_some, fin_some, up_some, cont_some, k_call, k_mv, k_pick, k_bin, k_eqB, k_eqA, k_not, k_neg, k_conv, k_alloc, k_boxA, k_boxI, k_boxB, k_boxN, k_boxBs, k_ldR, k_ldA, k_ldI, k_ldB, k_stA, k_stI, k_stB, ldC_some, stC_some, k_mkfn, k_slc, k_slcA, k_ixA, k_ixBs, k_ixSl, k_fadr, k_fld, k_ext, k_len, k_app, k_mn, k_mx, k_nilck, k_build, k_bsl1, k_bsl2, b_add, b_sub, b_mul, b_eql, b_neq, b_lss, b_leq, b_gtr, b_geq, Dn.setLast, Dn.getLast, evalO, mapO, Dn.get, putE, keepE, TV.one, TV.isAgg, Dn.part, sh_fn, b]

theorem e45 (H : Heap) : callRun pg (den pg) (.pu []) [.fn 45 [] [], (elS false).lt false X, .nilsl, .nilsl, .nilsl] H = some (.tup [.i .i64 0, .i .i64 90], H) := by
  have b := fun H P => body53e (P := P) hF hm (elS_RV true true X) q1 q2 (H := H)
  refine PFn.call (.of2 (xs := [(elS true).lt true X, .nilsl, .nilsl, .nilsl]) (x := .ret) (e := [(8, .i .i64 0), (9, .i .i64 90)]) (H' := []) (vs := [.i .i64 0, .i .i64 90]) (hF.S _ _ (by decide)) (d := d45) (by rw [hF.F]; rfl) rfl ?_ (.inl rfl) rfl (by simp) (by simp [sn_i, sn_b, sn_nil, sn8_i, sn8_b, sn8_nil, sn7_i, sn7_b, sn_sl, sn8_sl, slB_some, sn_tup, sn_agg, sn8_agg, mapO, elems])) (args := [(elS false).lt false X, .nilsl, .nilsl, .nilsl]) (by simp [snapArgs, snY, sn_i, sn_b, sn_nil, sn8_i, sn8_b, sn8_nil, sn7_i, sn7_b, sn_sl, sn8_sl, slB_some, sn_tup, sn_agg, sn8_agg, mapO, elems])
  simp [d45, c45, zipE, go_nil, go_last, go_past, go_pastR, go_blkN, go_blkR, go_blkE, go_skip, go_exit, go_ret, go_scope, go_seq, go_reg, go_block, go_cond, cnd_b, go_opsN, go_ops, go_opsG, grd_b, grd_u, stp_some, fin_some, up_some, cont_some, k_call, k_mv, k_pick, k_bin, k_eqB, k_eqA, k_not, k_neg, k_conv, k_alloc, k_boxA, k_boxI, k_boxB, k_boxN, k_boxBs, k_ldR, k_ldA, k_ldI, k_ldB, k_stA, k_stI, k_stB, ldC_some, stC_some, k_mkfn, k_slc, k_slcA, k_ixA, k_ixBs, k_ixSl, k_fadr, k_fld, k_ext, k_len, k_app, k_mn, k_mx, k_nilck, k_build, k_bsl1, k_bsl2, b_add, b_sub, b_mul, b_eql, b_neq, b_lss, b_leq, b_gtr, b_geq, Dn.setLast, Dn.getLast, evalO, mapO, Dn.get, putE, keepE, TV.one, TV.isAgg, Dn.part, sh_fn, b]

theorem e33 (H : Heap) : callRun pg (den pg) (.pu []) [.fn 33 [] [], (elS false).lt false X, .i .i64 1, .i .i64 2] H = some (.tup [.nilsl, .b false, .i .i64 90], H) := by
  have b := fun H P => body53e (P := P) hF hm (elS_RV true true X) q1 q2 (H := H)
  refine PFn.call (.of2 (xs := [(elS true).lt true X, .i .i64 1, .i .i64 2]) (x := .ret) (e := [(6, .nilsl), (7, .b false), (8, .i .i64 90)]) (H' := []) (vs := [.nilsl, .b false, .i .i64 90]) (hF.S _ _ (by decide)) (d := d33) (by rw [hF.F]; rfl) rfl ?_ (.inl rfl) rfl (by simp) (by simp [sn_i, sn_b, sn_nil, sn8_i, sn8_b, sn8_nil, sn7_i, sn7_b, sn_sl, sn8_sl, slB_some, sn_tup, sn_agg, sn8_agg, mapO, elems])) (args := [(elS false).lt false X, .i .i64 1, .i .i64 2]) (by simp [snapArgs, snY, sn_i, sn_b, sn_nil, sn8_i, sn8_b, sn8_nil, sn7_i, sn7_b, sn_sl, sn8_sl, slB_some, sn_tup, sn_agg, sn8_agg, mapO, elems])
  simp [d33, c33, zipE, go_nil, go_last, go_past, go_pastR, go_blkN, go_blkR, go_blkE, go_skip, go_exit, go_ret, go_scope, go_seq, go_reg, go_block, go_cond, cnd_b, go_opsN, go_ops, go_opsG, grd_b, grd_u, stp_some, fin_some, up_some, cont_some, k_call, k_mv, k_pick, k_bin, k_eqB, k_eqA, k_not, k_neg, k_conv, k_alloc, k_boxA, k_boxI, k_boxB, k_boxN, k_boxBs, k_ldR, k_ldA, k_ldI, k_ldB, k_stA, k_stI, k_stB, ldC_some, stC_some, k_mkfn, k_slc, k_slcA, k_ixA, k_ixBs, k_ixSl, k_fadr, k_fld, k_ext, k_len, k_app, k_mn, k_mx, k_nilck, k_build, k_bsl1, k_bsl2, b_add, b_sub, b_mul, b_eql, b_neq, b_lss, b_leq, b_gtr, b_geq, Dn.setLast, Dn.getLast, evalO, mapO, Dn.get, putE, keepE, TV.one, TV.isAgg, Dn.part, sh_fn, b]

theorem e19 (H : Heap) : callRun pg (den pg) (.pu []) [.fn 19 [] [], (elS false).lt false X] H = some (.tup [.i .i64 0, .i .i64 0, .i .i64 90], H) := by
  have b := fun H P => body53e (P := P) hF hm (elS_RV true true X) q1 q2 (H := H)
  refine PFn.call (.of2 (xs := [(elS true).lt true X]) (x := .ret) (e := [(2, .i .i64 0), (3, .i .i64 0), (4, .i .i64 90)]) (H' := []) (vs := [.i .i64 0, .i .i64 0, .i .i64 90]) (hF.S _ _ (by decide)) (d := d19) (by rw [hF.F]; rfl) rfl ?_ (.inl rfl) rfl (by simp) (by simp [sn_i, sn_b, sn_nil, sn8_i, sn8_b, sn8_nil, sn7_i, sn7_b, sn_sl, sn8_sl, slB_some, sn_tup, sn_agg, sn8_agg, mapO, elems])) (args := [(elS false).lt false X]) (by simp [snapArgs, snY])
  simp [d19, c19, zipE, go_nil, go_last, go_past, go_pastR, go_blkN, go_blkR, go_blkE, go_skip, go_exit, go_ret, go_scope, go_seq, go_reg, go_block, go_cond, cnd_b, go_opsN, go_ops, go_opsG, grd_b, grd_u, stp_some, fin_some, up_some, cont_some, k_call, k_mv, k_pick, k_bin, k_eqB, k_eqA, k_not, k_neg, k_conv, k_alloc, k_boxA, k_boxI, k_boxB, k_boxN, k_boxBs, k_ldR, k_ldA, k_ldI, k_ldB, k_stA, k_stI, k_stB, ldC_some, stC_some, k_mkfn, k_slc, k_slcA, k_ixA, k_ixBs, k_ixSl, k_fadr, k_fld, k_ext, k_len, k_app, k_mn, k_mx, k_nilck, k_build, k_bsl1, k_bsl2, b_add, b_sub, b_mul, b_eql, b_neq, b_lss, b_leq, b_gtr, b_geq, Dn.setLast, Dn.getLast, evalO, mapO, Dn.get, putE, keepE, TV.one, TV.isAgg, Dn.part, sh_fn, b]

theorem e20 (H : Heap) : callRun pg (den pg) (.pu []) [.fn 20 [] [], (elS false).lt false X] H = some (.tup [.nilsl, .i .i64 90], H) := by
  have b := fun H P => body53e (P := P) hF hm (elS_RV true true X) q1 q2 (H := H)
  have hst : dkc pg (den pg) (.st 1) [.ref 0 0, .nilp] [.cells [.nilp] false] = some (.undef, [.cells [.nilp] false]) := rfl
  refine PFn.call (.of2 (xs := [(elS true).lt true X]) (x := .ret) (e := [(2, .nilsl), (3, .i .i64 90)]) (H' := [.cells [.nilp] false]) (vs := [.nilsl, .i .i64 90]) (hF.S _ _ (by decide)) (d := d20) (by rw [hF.F]; rfl) rfl ?_ (.inl rfl) rfl (by simp) (by simp [sn_i, sn_b, sn_nil, sn8_i, sn8_b, sn8_nil, sn7_i, sn7_b, sn_sl, sn8_sl, slB_some, sn_tup, sn_agg, sn8_agg, mapO, elems])) (args := [(elS false).lt false X]) (by simp [snapArgs, snY])
  simp [d20, c20, zipE, go_nil, go_last, go_past, go_pastR, go_blkN, go_blkR, go_blkE, go_skip, go_exit, go_ret, go_scope, go_seq, go_reg, go_block, go_cond, cnd_b, go_opsN, go_ops, go_opsG, grd_b, grd_u, stp_some, fin_some, up_some, cont_some, k_call, k_mv, k_pick, k_bin, k_eqB, k_eqA, k_not, k_neg, k_conv, k_alloc, k_boxA, k_boxI, k_boxB, k_boxN, k_boxBs, k_ldR, k_ldA, k_ldI, k_ldB, k_stA, k_stI, k_stB, ldC_some, stC_some, k_mkfn, k_slc, k_slcA, k_ixA, k_ixBs, k_ixSl, k_fadr, k_fld, k_ext, k_len, k_app, k_mn, k_mx, k_nilck, k_build, k_bsl1, k_bsl2, b_add, b_sub, b_mul, b_eql, b_neq, b_lss, b_leq, b_gtr, b_geq, Dn.setLast, Dn.getLast, evalO, mapO, Dn.get, putE, keepE, TV.one, TV.isAgg, Dn.part, sh_fn, b, hst]

theorem e39 (H : Heap) : callRun pg (den pg) (.pu []) [.fn 39 [] [], (elS false).lt false X, .i .i64 0, .i .i64 0] H = some (.tup [.agg [.i .i64 0, .i .i64 0, .i .i64 0, .i .i64 0], .i .i64 90], H) := by
  have b := fun H P => body53e (P := P) hF hm (elS_RV true true X) q1 q2 (H := H)
  refine PFn.call (.of2 (xs := [(elS true).lt true X, .i .i64 0, .i .i64 0]) (x := .ret) (e := [(6, .ref 0 0), (7, .i .i64 90)]) (H' := [.cells [.i .i64 0, .i .i64 0, .i .i64 0, .i .i64 0] true, .cells [.i .i64 0, .i .i64 0] false]) (vs := [.agg [.i .i64 0, .i .i64 0, .i .i64 0, .i .i64 0], .i .i64 90]) (hF.S _ _ (by decide)) (d := d39) (by rw [hF.F]; rfl) rfl ?_ (.inl rfl) rfl (by simp) (by simp [sn_i, sn_b, sn_nil, sn8_i, sn8_b, sn8_nil, sn7_i, sn7_b, sn_sl, sn8_sl, slB_some, sn_tup, sn_agg, sn8_agg, mapO, elems])) (args := [(elS false).lt false X, .i .i64 0, .i .i64 0]) (by simp [snapArgs, snY, sn_i, sn_b, sn_nil, sn8_i, sn8_b, sn8_nil, sn7_i, sn7_b, sn_sl, sn8_sl, slB_some, sn_tup, sn_agg, sn8_agg, mapO, elems])
  simp [d39, c39, zipE, go_nil, go_last, go_past, go_pastR, go_blkN, go_blkR, go_blkE, go_skip, go_exit, go_ret, go_scope, go_seq, go_reg, go_block, go_cond, cnd_b, go_opsN, go_ops, go_opsG, grd_b, grd_u, stp_some, fin_some, up_some, cont_some, k_call, k_mv, k_pick, k_bin, k_eqB, k_eqA, k_not, k_neg, k_conv, k_alloc, k_boxA, k_boxI, k_boxB, k_boxN, k_boxBs, k_ldR, k_ldA, k_ldI, k_ldB, k_stA, k_stI, k_stB, ldC_some, stC_some, k_mkfn, k_slc, k_slcA, k_ixA, k_ixBs, k_ixSl, k_fadr, k_fld, k_ext, k_len, k_app, k_mn, k_mx, k_nilck, k_build, k_bsl1, k_bsl2, b_add, b_sub, b_mul, b_eql, b_neq, b_lss, b_leq, b_gtr, b_geq, Dn.setLast, Dn.getLast, evalO, mapO, Dn.get, putE, keepE, TV.one, TV.isAgg, Dn.part, sh_fn, b, fillP, put2]

theorem e40 (H : Heap) : callRun pg (den pg) (.pu []) [.fn 40 [] [], (elS false).lt false X, .i .i64 0, .i .i64 0] H = some (.tup [.i .i64 0, .i .i64 90], H) := by
  have b := fun H P => body53e (P := P) hF hm (elS_RV true true X) q1 q2 (H := H)
  refine PFn.call (.of2 (xs := [(elS true).lt true X, .i .i64 0, .i .i64 0]) (x := .ret) (e := [(6, .i .i64 0), (7, .i .i64 90)]) (H' := [.cells [.i .i64 0, .i .i64 0] false]) (vs := [.i .i64 0, .i .i64 90]) (hF.S _ _ (by decide)) (d := d40) (by rw [hF.F]; rfl) rfl ?_ (.inl rfl) rfl (by simp) (by simp [sn_i, sn_b, sn_nil, sn8_i, sn8_b, sn8_nil, sn7_i, sn7_b, sn_sl, sn8_sl, slB_some, sn_tup, sn_agg, sn8_agg, mapO, elems])) (args := [(elS false).lt false X, .i .i64 0, .i .i64 0]) (by simp [snapArgs, snY, sn_i, sn_b, sn_nil, sn8_i, sn8_b, sn8_nil, sn7_i, sn7_b, sn_sl, sn8_sl, slB_some, sn_tup, sn_agg, sn8_agg, mapO, elems])
  simp [d40, c40, zipE, go_nil, go_last, go_past, go_pastR, go_blkN, go_blkR, go_blkE, go_skip, go_exit, go_ret, go_scope, go_seq, go_reg, go_block, go_cond, cnd_b, go_opsN, go_ops, go_opsG, grd_b, grd_u, stp_some, fin_some, up_some, cont_some, k_call, k_mv, k_pick, k_bin, k_eqB, k_eqA, k_not, k_neg, k_conv, k_alloc, k_boxA, k_boxI, k_boxB, k_boxN, k_boxBs, k_ldR, k_ldA, k_ldI, k_ldB, k_stA, k_stI, k_stB, ldC_some, stC_some, k_mkfn, k_slc, k_slcA, k_ixA, k_ixBs, k_ixSl, k_fadr, k_fld, k_ext, k_len, k_app, k_mn, k_mx, k_nilck, k_build, k_bsl1, k_bsl2, b_add, b_sub, b_mul, b_eql, b_neq, b_lss, b_leq, b_gtr, b_geq, Dn.setLast, Dn.getLast, evalO, mapO, Dn.get, putE, keepE, TV.one, TV.isAgg, Dn.part, sh_fn, b]
end

set_option maxRecDepth 8000 in
theorem run16 {pg : Pg} (hF : Free pg) (h24 : PFn pg 24 [] (.b true)) {T : TV} {l : List Obs} (hT : Rws T l) : ∃ H, bodyRun pg (den pg) 16 [T] [] = some (.b true, H) := by
  have c50 := call50 hF hT
  have c18 := call18o hF l
  have hX := elS_RV false false (ownd l)
  obtain ⟨q1, q3⟩ := ownd_len l
  have q2 : ∀ x ∈ ownd l, x.1.length ≤ 1000 ∧ x.2.length ≤ 1000 := fun x hx => by have := q3 x hx; omega
  have c51 := call51 hF hX q1 (fun x hx => (q2 x hx).1)
  have c52 := call52 hF hX q1 q2
  have c24 := fun H => PFn.call h24 (args := []) (ks := []) (fs := []) (cs := []) (H := H) (by simp [snapArgs])
  generalize hXX : ownd l = X at *
  cases hm : market X with
  | true =>
    have hc : chkE X = 0 := by simp [chkE, hm]
    rw [hm] at c51
    rw [hc] at c52
    refine ⟨[], body_of (x := .ret) (e := [(2, .b true)]) (d := d16) (by rw [hF.F]; rfl) rfl ?_ (.inl rfl) rfl⟩
    simp [d16, c16, zipE, go_nil, go_last, go_past, go_pastR, go_blkN, go_blkR, go_blkE, go_skip, go_exit, go_ret, go_scope, go_seq, go_reg, go_block, go_cond, cnd_b, go_opsN, go_ops, go_opsG, grd_b, grd_u, stp_some, fin_some, up_some, cont_some, k_call, k_mv, k_pick, k_bin, k_eqB, k_eqA, k_not, k_neg, k_conv, k_alloc, k_boxA, k_boxI, k_boxB, k_boxN, k_boxBs, k_ldR, k_ldA, k_ldI, k_ldB, k_stA, k_stI, k_stB, ldC_some, stC_some, k_mkfn, k_slc, k_slcA, k_ixA, k_ixBs, k_ixSl, k_fadr, k_fld, k_ext, k_len, k_app, k_mn, k_mx, k_nilck, k_build, k_bsl1, k_bsl2, b_add, b_sub, b_mul, b_eql, b_neq, b_lss, b_leq, b_gtr, b_geq, Dn.setLast, Dn.getLast, evalO, mapO, Dn.get, putE, keepE, TV.one, TV.isAgg, Dn.part, c50, c18, c51, c52, c24, negb]
  | false =>
    have hc : chkE X = 90 := by simp [chkE, hm]
    rw [hm] at c51
    rw [hc] at c52
    have w0 : wrapR .i64 0 = .i .i64 0 := rfl
    have ln : ∀ H, lenK 0 .nilsl H = some 0 := fun _ => rfl
    refine ⟨[.cells [.i .i64 0, .i .i64 1] false, .cells [.i .i64 0, .i .i64 1] false, .cells [.i .i64 0, .i .i64 0, .i .i64 0, .i .i64 0] true], body_of (x := .ret) (e := [(2, .b true)]) (d := d16) (by rw [hF.F]; rfl) rfl ?_ (.inl rfl) rfl⟩
    simp [d16, c16, zipE, go_nil, go_last, go_past, go_pastR, go_blkN, go_blkR, go_blkE, go_skip, go_exit, go_ret, go_scope, go_seq, go_reg, go_block, go_cond, cnd_b, go_opsN, go_ops, go_opsG, grd_b, grd_u, stp_some, fin_some, up_some, cont_some, k_call, k_mv, k_pick, k_bin, k_eqB, k_eqA, k_not, k_neg, k_conv, k_alloc, k_boxA, k_boxI, k_boxB, k_boxN, k_boxBs, k_ldR, k_ldA, k_ldI, k_ldB, k_stA, k_stI, k_stB, ldC_some, stC_some, k_mkfn, k_slc, k_slcA, k_ixA, k_ixBs, k_ixSl, k_fadr, k_fld, k_ext, k_len, k_app, k_mn, k_mx, k_nilck, k_build, k_bsl1, k_bsl2, b_add, b_sub, b_mul, b_eql, b_neq, b_lss, b_leq, b_gtr, b_geq, Dn.setLast, Dn.getLast, evalO, mapO, Dn.get, putE, keepE, TV.one, TV.isAgg, Dn.part, c50, c18, c51, c52, c24, negb, e34 hF hm q1 q2, e38 hF hm q1 q2, e25 hF hm q1 q2, e30 hF hm q1 q2, e31 hF hm q1 q2, e35 hF hm q1 q2, e43 hF hm q1 q2, e45 hF hm q1 q2, e33 hF hm q1 q2, e19 hF hm q1 q2, e20 hF hm q1 q2, e39 hF hm q1 q2, e40 hF hm q1 q2, w0, ln, put2, fillP, eqL, eqK, eqS]

end Go.Proofs.Tryd.Dn

