/-
  Dice: which die beats which: the law run.
-/
import Derived.Test.YtijeefncmgjlpaaEb
set_option linter.unusedSimpArgs false
set_option linter.unusedVariables false

namespace Go.Proofs.Try.Dn
open Go.Dn

theorem ltV {α : Type} (E : El α) (b : Bool) (H : Heap) (l : List α) : E.View H (E.lt b l) l := by
  cases l with
  | nil => exact .inl ⟨rfl, rfl⟩
  | cons x l => exact .inr (.inl ⟨b, rfl⟩)

theorem ixRw {pg : Pg} {H : Heap} {b : Bool} {l : List (List Bool)} {i : Nat} {x : List Bool} (hx : l[i]? = some x) : ∃ p, dkc pg (den pg) (.ixS 1 false) [(elRw elB b).lt b l, .i .i64 (i : Int)] H = some (p, H) ∧ dkc pg (den pg) (.ld 1 false) [p] H = some (elB.lt b x, H) := by
  obtain ⟨p, h1, h2, _⟩ := (ltV (elRw elB b) b H l).ix (pg := pg) (R := den pg) hx .i64
  exact ⟨p, h1, h2.ld⟩
theorem ixBo {pg : Pg} {H : Heap} {b : Bool} {l : List Bool} {i : Nat} {x : Bool} (hx : l[i]? = some x) : ∃ p, dkc pg (den pg) (.ixS 1 false) [elB.lt b l, .i .i64 (i : Int)] H = some (p, H) ∧ dkc pg (den pg) (.ld 1 false) [p] H = some (.b x, H) := by
  obtain ⟨p, h1, h2, _⟩ := (ltV elB b H l).ix (pg := pg) (R := den pg) hx .i64
  exact ⟨p, h1, h2.ld⟩

theorem tbl_at {ls : List (List Int)} {i k : Nat} {a b : List Int} (ha : ls[i]? = some a) (hb : ls[k]? = some b) : (tbl ls)[i]? = some (ls.map (bt a)) ∧ (ls.map (bt a))[k]? = some (bt a b) := by
  unfold tbl
  rw [List.getElem?_map, List.getElem?_map, ha, hb]
  exact ⟨rfl, rfl⟩

theorem call28 {pg : Pg} (hF : Free pg) {T : TV} {l : List (List Int)} (hT : SSV T l) (hl : l.length ≤ 9223372036854775807) (hL : ∀ x ∈ l, x.length ≤ 9223372036854775807) {many most : Nat} (h1 : 1 ≤ many) (h6 : many ≤ 1000) (hm : most ≤ 1000) (H : Heap) :
    ∃ ls, Row most many ls ∧ callRun pg (den pg) (.pu []) [.fn 28 [] [], T, .i .i64 (many : Int), .i .i64 (most : Int)] H = some ((elR false).lt false ls, H) := by
  obtain ⟨T', s1, s2⟩ := hT.snap H 6
  obtain ⟨ls, O, ts, H', r1, r2, r3⟩ := body28 hF s2 hl hL h1 h6 hm
  refine ⟨ls, r2, PFn.call (xs := [T', .i .i64 (many : Int), .i .i64 (most : Int)]) (.inr ⟨hF.S _ _, O, H', r1, r3.fin (fun d hd he => by have := (r2.all d hd).pos; rw [he] at this; simp at this) 5⟩) (args := [T, .i .i64 (many : Int), .i .i64 (most : Int)]) (ks := []) (fs := []) (cs := []) (by simp [snapArgs, s1, sn_i])⟩

theorem call30 {pg : Pg} (hF : Free pg) {A B : TV} {a b : List Int} (hA : SV A a) (hB : SV B b) (ha : a.length ≤ 100) (hb : b.length ≤ 100) (H : Heap) : callRun pg (den pg) (.pu []) [.fn 30 [] [], A, B] H = some (.b (bt a b), H) := by
  obtain ⟨A', s1, hA'⟩ := hA.snap H 7
  obtain ⟨B', s2, hB'⟩ := hB.snap H 7
  exact PFn.call (fn30 (pg := pg) hF hA' hB' ha hb) (args := [A, B]) (ks := []) (fs := []) (cs := []) (by simp [snapArgs, s1, s2])

theorem l6_1_all {pg : Pg} (hF : Free pg) {ls : List (List Int)} (hl : ls.length ≤ 100) (hL : ∀ x ∈ ls, x.length ≤ 100) {X R : TV} (hX : SSV X ls) (hR : R = (elRw elB false).lt false (tbl ls)) {i : Nat} {a : List Int} (ha : ls[i]? = some a) {H : Heap} :
    ∀ (n k : Nat), k + n = ls.length → ∃ e, den pg l6_1 [(3, X), (4, R), (6, .i .i64 (i : Int)), (7, .i .i64 (k : Int))] H = some ⟨.exit 2, e, H⟩ ∧ keepE [3, 4, 6] e = [(3, X), (4, R), (6, .i .i64 (i : Int))]
  | 0, k, hk => by
    obtain rfl : k = ls.length := by omega
    have ln := hX.len H
    refine ⟨[(3, X), (4, R), (6, .i .i64 (i : Int)), (7, .i .i64 (ls.length : Int)), (41, .b false)], ?_, rfl⟩
    rw [l6_1, den_loop]
    simp (disch := omega) [b6_0, go_nil, go_last, go_past, go_pastR, go_blkN, go_blkR, go_blkE, go_skip, go_exit, go_ret, go_scope, go_seq, go_reg, go_regd, go_opdN, go_opd, go_opdG, grdd_b, grdd_u, stpd_some, find_some, go_block, go_cond, cnd_b, go_opsN, go_ops, go_opsG, grd_b, grd_u, stp_some, fin_some, up_some, cont_some, k_call, k_mv, k_pick, k_bin, k_eqB, k_eqA, k_not, k_neg, k_conv, k_alloc, k_boxA, k_boxI, k_boxB, k_boxN, k_boxBs, k_ldR, k_ldA, k_ldI, k_ldB, k_stA, k_stI, k_stB, ldC_some, stC_some, k_mkfn, k_slc, k_slcA, k_ixA, k_ixBs, k_ixSl, k_fadr, k_fld, k_ext, k_len, k_app, k_mn, k_mx, k_nilck, k_build, k_bsl1, k_bsl2, b_add, b_sub, b_mul, b_eql, b_neq, b_lss, b_leq, b_gtr, b_geq, Dn.setLast, Dn.getLast, evalO, mapO, Dn.get, putE, keepE_nil, keepE_cons, kp_some, kp_none, TV.one, TV.isAgg, Dn.part, k_boxR, negb, at0, at1, at2, at3, at4, dT, dF, wrapR_i64, Option.bind_some, Option.map_some, ln]
  | n + 1, k, hk => by
    have ln := hX.len H
    obtain ⟨b, hb⟩ : ∃ b, ls[k]? = some b := ⟨_, List.getElem?_eq_getElem (by omega)⟩
    obtain ⟨t1, t2⟩ := tbl_at ha hb
    obtain ⟨p, p1, p2⟩ := ixRw (pg := pg) (H := H) (b := false) t1
    rw [← hR] at p1
    obtain ⟨q, q1, q2⟩ := ixBo (pg := pg) (H := H) (b := false) t2
    obtain ⟨u, A, u1, u2, hA⟩ := hX.ix (pg := pg) (R := den pg) ha H
    obtain ⟨w, B, w1, w2, hB⟩ := hX.ix (pg := pg) (R := den pg) hb H
    have c := call30 (pg := pg) hF hA hB (hL a (List.mem_of_getElem? ha)) (hL b (List.mem_of_getElem? hb)) H
    obtain ⟨e, r1, r2⟩ := l6_1_all (pg := pg) hF hl hL hX hR ha (H := H) n (k + 1) (by omega)
    refine ⟨e, Eq.trans ?_ r1, r2⟩
    obtain ⟨N, hN⟩ : ∃ N, N = ls.length := ⟨_, rfl⟩
    rw [← hN] at hk ln
    have dk : decide ((k : Int) < (N : Int)) = true := dT (by omega)
    generalize elB.lt false (ls.map (bt a)) = RR at *
    rw [l6_1, den_loop]
    simp (disch := omega) [l6_1, b6_0, go_nil, go_last, go_past, go_pastR, go_blkN, go_blkR, go_blkE, go_skip, go_exit, go_ret, go_scope, go_seq, go_reg, go_regd, go_opdN, go_opd, go_opdG, grdd_b, grdd_u, stpd_some, find_some, go_block, go_cond, cnd_b, go_opsN, go_ops, go_opsG, grd_b, grd_u, stp_some, fin_some, up_some, cont_some, k_call, k_mv, k_pick, k_bin, k_eqB, k_eqA, k_not, k_neg, k_conv, k_alloc, k_boxA, k_boxI, k_boxB, k_boxN, k_boxBs, k_ldR, k_ldA, k_ldI, k_ldB, k_stA, k_stI, k_stB, ldC_some, stC_some, k_mkfn, k_slc, k_slcA, k_ixA, k_ixBs, k_ixSl, k_fadr, k_fld, k_ext, k_len, k_app, k_mn, k_mx, k_nilck, k_build, k_bsl1, k_bsl2, b_add, b_sub, b_mul, b_eql, b_neq, b_lss, b_leq, b_gtr, b_geq, Dn.setLast, Dn.getLast, evalO, mapO, Dn.get, putE, keepE_nil, keepE_cons, kp_some, kp_none, TV.one, TV.isAgg, Dn.part, k_boxR, negb, at0, at1, at2, at3, at4, dT, dF, wrapR_i64, Option.bind_some, Option.map_some, ln, dk, p1, p2, q1, q2, u1, u2, w1, w2, c]

theorem l6_3_all {pg : Pg} (hF : Free pg) {ls : List (List Int)} (hl : ls.length ≤ 100) (hL : ∀ x ∈ ls, x.length ≤ 100) {X R : TV} (hX : SSV X ls) (hR : R = (elRw elB false).lt false (tbl ls)) {H : Heap} :
    ∀ (n i : Nat), i + n = ls.length → ∃ e, den pg l6_3 [(3, X), (4, R), (6, .i .i64 (i : Int))] H = some ⟨.exit 0, e, H⟩
  | 0, i, hi => by
    obtain rfl : i = ls.length := by omega
    have ln := hX.len H
    exact ⟨_, by
      rw [l6_3, den_loop]
      simp (disch := omega) [b6_2, go_nil, go_last, go_past, go_pastR, go_blkN, go_blkR, go_blkE, go_skip, go_exit, go_ret, go_scope, go_seq, go_reg, go_regd, go_opdN, go_opd, go_opdG, grdd_b, grdd_u, stpd_some, find_some, go_block, go_cond, cnd_b, go_opsN, go_ops, go_opsG, grd_b, grd_u, stp_some, fin_some, up_some, cont_some, k_call, k_mv, k_pick, k_bin, k_eqB, k_eqA, k_not, k_neg, k_conv, k_alloc, k_boxA, k_boxI, k_boxB, k_boxN, k_boxBs, k_ldR, k_ldA, k_ldI, k_ldB, k_stA, k_stI, k_stB, ldC_some, stC_some, k_mkfn, k_slc, k_slcA, k_ixA, k_ixBs, k_ixSl, k_fadr, k_fld, k_ext, k_len, k_app, k_mn, k_mx, k_nilck, k_build, k_bsl1, k_bsl2, b_add, b_sub, b_mul, b_eql, b_neq, b_lss, b_leq, b_gtr, b_geq, Dn.setLast, Dn.getLast, evalO, mapO, Dn.get, putE, keepE_nil, keepE_cons, kp_some, kp_none, TV.one, TV.isAgg, Dn.part, k_boxR, negb, at0, at1, at2, at3, at4, dT, dF, wrapR_i64, Option.bind_some, Option.map_some, ln]
      rfl⟩
  | n + 1, i, hi => by
    have ln := hX.len H
    obtain ⟨a, ha⟩ : ∃ a, ls[i]? = some a := ⟨_, List.getElem?_eq_getElem (by omega)⟩
    obtain ⟨t1, t2⟩ := tbl_at ha ha
    obtain ⟨p, p1, p2⟩ := ixRw (pg := pg) (H := H) (b := false) t1
    rw [← hR] at p1
    have ln2 : ∀ K, lenK 0 (elB.lt false (ls.map (bt a))) K = some ls.length := fun K => by
      have := (ltV elB false K (ls.map (bt a))).lenK
      rw [List.length_map] at this
      exact this K
    obtain ⟨e, r1, r2⟩ := l6_1_all (pg := pg) hF hl hL hX hR ha (H := H) ls.length 0 (by omega)
    obtain ⟨e', r'⟩ := l6_3_all (pg := pg) hF hl hL hX hR (H := H) n (i + 1) (by omega)
    refine ⟨e', Eq.trans ?_ r'⟩
    obtain ⟨N, hN⟩ : ∃ N, N = ls.length := ⟨_, rfl⟩
    rw [← hN] at hi ln ln2
    have di : decide ((i : Int) < (N : Int)) = true := dT (by omega)
    have g3 := keep_get r2 (s := 3) (by simp) rfl
    have g4 := keep_get r2 (s := 4) (by simp) rfl
    have g6 := keep_get r2 (s := 6) (by simp) rfl
    generalize elB.lt false (ls.map (bt a)) = RR at *
    simp only [Int.natCast_zero] at r1
    rw [l6_3, den_loop]
    simp (disch := omega) [l6_3, b6_2, go_nil, go_last, go_past, go_pastR, go_blkN, go_blkR, go_blkE, go_skip, go_exit, go_ret, go_scope, go_seq, go_reg, go_regd, go_opdN, go_opd, go_opdG, grdd_b, grdd_u, stpd_some, find_some, go_block, go_cond, cnd_b, go_opsN, go_ops, go_opsG, grd_b, grd_u, stp_some, fin_some, up_some, cont_some, k_call, k_mv, k_pick, k_bin, k_eqB, k_eqA, k_not, k_neg, k_conv, k_alloc, k_boxA, k_boxI, k_boxB, k_boxN, k_boxBs, k_ldR, k_ldA, k_ldI, k_ldB, k_stA, k_stI, k_stB, ldC_some, stC_some, k_mkfn, k_slc, k_slcA, k_ixA, k_ixBs, k_ixSl, k_fadr, k_fld, k_ext, k_len, k_app, k_mn, k_mx, k_nilck, k_build, k_bsl1, k_bsl2, b_add, b_sub, b_mul, b_eql, b_neq, b_lss, b_leq, b_gtr, b_geq, Dn.setLast, Dn.getLast, evalO, mapO, Dn.get, putE, keepE_nil, keepE_cons, kp_some, kp_none, TV.one, TV.isAgg, Dn.part, k_boxR, negb, at0, at1, at2, at3, at4, dT, dF, wrapR_i64, Option.bind_some, Option.map_some, ln, ln2, di, p1, p2, go_denK (c := l6_1) rfl, r1, g3, g4, g6]

theorem run6 {pg : Pg} (hF : Free pg) (h23 : PFn pg 23 [] (.b true)) {T : TV} {l : List (List Int)} (hT : SSV T l) (hl : l.length ≤ 9223372036854775807) (hL : ∀ x ∈ l, x.length ≤ 9223372036854775807) : ∃ H, bodyRun pg (den pg) 6 [T] [] = some (.b true, H) := by
  obtain ⟨ls, hr, c28⟩ := call28 (pg := pg) hF hT hl hL (many := 6) (most := 9) (by omega) (by omega) (by omega) []
  have c23 := fun H => PFn.call h23 (args := []) (ks := []) (fs := []) (cs := []) (H := H) (by simp [snapArgs])
  have hlen := hr.le
  have hL2 : ∀ x ∈ ls, x.length ≤ 100 := fun x hx => by have := (hr.all x hx).le; omega
  have hX := elR_SSV false false ls
  have ln := hX.len []
  obtain ⟨X', s1, s2⟩ := snapSSV hX []
  have c29 := PFn.call (fn29 (pg := pg) hF s2 (chk_row hr (by omega) (by omega))) (args := [(elR false).lt false ls]) (ks := []) (fs := []) (cs := []) (H := []) (by simpa using s1)
  obtain ⟨e, r⟩ := l6_3_all (pg := pg) hF (by omega) hL2 hX rfl (H := []) ls.length 0 (by omega)
  have ln2 : ∀ K, lenK 0 ((elRw elB false).lt false (tbl ls)) K = some ls.length := fun K => by
    have := (ltV (elRw elB false) false K (tbl ls)).lenK
    rw [show (tbl ls).length = ls.length by unfold tbl; rw [List.length_map]] at this
    exact this K
  refine ⟨[], body_of (x := .ret) (e := [(2, .b true)]) (d := d6) (by rw [hF.F]; rfl) rfl ?_ (.inl rfl) rfl⟩
  generalize (elRw elB false).lt false (tbl ls) = R at *
  generalize (elR false).lt false ls = X at *
  simp only [Int.natCast_zero] at r
  simp only [Int.cast_ofNat_Int] at c28
  simp (disch := omega) [d6, c6, zipE, go_nil, go_last, go_past, go_pastR, go_blkN, go_blkR, go_blkE, go_skip, go_exit, go_ret, go_scope, go_seq, go_reg, go_regd, go_opdN, go_opd, go_opdG, grdd_b, grdd_u, stpd_some, find_some, go_block, go_cond, cnd_b, go_opsN, go_ops, go_opsG, grd_b, grd_u, stp_some, fin_some, up_some, cont_some, k_call, k_mv, k_pick, k_bin, k_eqB, k_eqA, k_not, k_neg, k_conv, k_alloc, k_boxA, k_boxI, k_boxB, k_boxN, k_boxBs, k_ldR, k_ldA, k_ldI, k_ldB, k_stA, k_stI, k_stB, ldC_some, stC_some, k_mkfn, k_slc, k_slcA, k_ixA, k_ixBs, k_ixSl, k_fadr, k_fld, k_ext, k_len, k_app, k_mn, k_mx, k_nilck, k_build, k_bsl1, k_bsl2, b_add, b_sub, b_mul, b_eql, b_neq, b_lss, b_leq, b_gtr, b_geq, Dn.setLast, Dn.getLast, evalO, mapO, Dn.get, putE, keepE_nil, keepE_cons, kp_some, kp_none, TV.one, TV.isAgg, Dn.part, k_boxR, negb, at0, at1, at2, at3, at4, dT, dF, wrapR_i64, Option.bind_some, Option.map_some, c28, c29, ln, ln2, go_denK (c := l6_3) rfl, r, c23]

end Go.Proofs.Try.Dn

