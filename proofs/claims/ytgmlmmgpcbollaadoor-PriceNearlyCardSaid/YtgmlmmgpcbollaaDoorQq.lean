/-
  PriceNearly: the whole run answers true.
-/
import Derived.Test.YtgmlmmgpcbollaaDoorQp
set_option linter.unusedSimpArgs false
set_option linter.unusedVariables false

namespace Go.Proofs.Tryd.Dn
open Go.Dn

set_option maxRecDepth 20000 in
theorem run6 {pg : Pg} (hF : Free pg) (h24 : PFn pg 24 [] (.b true)) {T : TV} {l : List Obs} (hT : Rws T l) (hl : l.length ≤ 9223372036854775807) (n : Int) : ∃ H, bodyRun pg (den pg) 6 [T, .i .i64 n] [] = some (.b true, H) := by
  obtain ⟨X, g, hm, c17⟩ := call17 hF hT hl n
  have hn5 := hm.n5
  have c18 := call18m hF hm
  have c24 := fun H => PFn.call h24 (args := []) (ks := []) (fs := []) (cs := []) (H := H) (by simp [snapArgs])
  obtain ⟨s, hs, ssm, c19⟩ := call19 hF hm
  obtain ⟨r, c25, r1, _, _⟩ := call25 hF hm
  have c20 := call20 hF hm
  have hmst := mst hm
  generalize mostN X (2 ^ X.length - 1) = m at *
  have hml := hmst.le
  have hne1 := hmst.ne
  have hle := share_le_one hs
  have hp1 := hs.pos.1
  have hp2 := hs.pos.2
  have hsm2 := ssm.2
  obtain ⟨ra, ca, a1, _, _⟩ := call33 hF hm (a := (s.1 : Int) - 1) (b := (s.2 : Int)) (by unfold badShare; omega)
  have hra : ra = [] := a1.2 (share_below hm hs)
  have hda : decide (ra ≠ []) = false := by simpa using hra
  rw [hda] at ca
  have w1 : wrapR .i64 ((s.1 : Int) - 1) = .i .i64 ((s.1 : Int) - 1) := wrapR_i64 (by omega)
  have w2 : wrapR .i64 ((s.1 : Int) + 1) = .i .i64 ((s.1 : Int) + 1) := wrapR_i64 (by omega)
  have hlX := El.lt_len (E := elS false) false X
  have hlm := fun H => El.lt_len (E := elI) false (nI m) H
  simp only [nI_len] at hlm
  -- the first part
  have hmk := k_mksl (pg := pg) (R := den pg) [.b false] false 1 .i64 .i64 X.length [] (by omega) (by omega)
  simp only [List.length_singleton, List.nil_append, List.length_nil] at hmk
  have harr := El.arr_mksl elB [] false X.length
  have hm0 : metOf X.length (nI m) 0 = List.replicate X.length false := by
    apply List.ext_getElem?
    intro j
    by_cases hj : j < X.length
    · rw [metOf_get hj, List.getElem?_replicate, if_pos hj]; simp
    · rw [List.getElem?_eq_none (by simp [metOf]; omega), List.getElem?_eq_none (by simp; omega)]
  rw [← hm0] at harr
  have harr' : elB.Arr [.cells (repl [.b false] X.length) false] (.sl 0 0 1 false X.length (some X.length)) (metOf X.length (nI m) 0) := harr
  obtain ⟨A, hA⟩ : ∃ A : TV, A = .sl 0 0 1 false X.length (some X.length) := ⟨_, rfl⟩
  have hAid : A.idOf = some 0 := by rw [hA]; rfl
  rw [← hA] at harr' hmk
  obtain ⟨e1, S, H1, k1, k2, k3, k4, k5⟩ := l6_1_all hF hm hmst.lt hmst.sorted (by omega) hAid m.length 0 .nilsl _ (by omega) harr' (.inl ⟨rfl, rfl⟩) (by simp [TV.idOf])
  have g5 := keep_get k2 (s := 5) (by simp) rfl
  have g21 := keep_get k2 (s := 21) (by simp) rfl
  have g22 := keep_get k2 (s := 22) (by simp) rfl
  have hY : Market (sub X m) g := sub_market hm hmst.nodup hmst.lt (by rintro rfl; simp at hne1)
  obtain ⟨rs, cs, s1⟩ := call25o hF hY k4
  have hrs : rs = [] := s1.2 hmst.free
  have hds : decide (rs ≠ []) = false := by simpa using hrs
  rw [hds] at cs
  obtain ⟨e2, H2, q1⟩ := l6_3_all hF hm hmst hAid k5 X.length 0 H1 (by omega) k3 k4
  simp only [Int.natCast_zero] at k1 q1
  have y1 : ¬ ((s.1 : Int) < 1) := by omega
  have y2 : ¬ ((s.2 : Int) < (s.1 : Int)) := by omega
  have y3 : ¬ ((2000 : Int) < (s.2 : Int)) := by omega
  have y4 : ¬ ((m.length : Int) < 1) := by omega
  have y5 : ¬ ((X.length : Int) < (m.length : Int)) := by omega
  have y8 : ¬ (X.length < m.length) := by omega
  have y9 : (1 : Int) ≤ (m.length : Int) := by omega
  refine ⟨H2, body_of (x := .ret) (e := [(4, .b true)]) (d := d6) (by rw [hF.F]; rfl) rfl ?_ (.inl rfl) rfl⟩
  have hfull : ((m.length : Int) == (X.length : Int)) = !decide (r ≠ []) := by
    rw [Bool.eq_iff_iff, beq_iff_eq, Bool.not_eq_true', decide_eq_false_iff_not, Classical.not_not, r1, ← hmst.full]
    omega
  have hnoring : decide (r ≠ []) = false → s.1 = s.2 := fun h => share_no_ring hm hs (r1.1 (by simpa using h))
  by_cases hlt : s.1 < s.2
  · have y6 : ((s.1 : Int) < (s.2 : Int)) := by omega
    obtain ⟨rb, cb, b1, _, _⟩ := call33 hF hm (a := (s.1 : Int) + 1) (b := (s.2 : Int)) (by unfold badShare; omega)
    have hrb : rb ≠ [] := fun h => b1.1 h (share_above hm hs hlt)
    have hdb : decide (rb ≠ []) = true := by simpa using hrb
    rw [hdb] at cb
    have hring : decide (r ≠ []) = true := by
      cases h : decide (r ≠ []) with
      | true => rfl
      | false => have := hnoring h; omega
    rw [hring] at c25 hfull
    generalize (s.1 : Int) = v1 at *
    generalize (s.2 : Int) = v2 at *
    simp [-beq_iff_eq, d6, c6, negb, zipE, go_nil, go_last, go_past, go_pastR, go_blkN, go_blkR, go_blkE, go_skip, go_exit, go_ret, go_scope, go_seq, go_reg, go_block, go_cond, cnd_b, go_opsN, go_ops, go_opsG, grd_b, grd_u, stp_some, fin_some, up_some, cont_some, k_call, k_mv, k_pick, k_bin, k_eqB, k_eqA, k_not, k_neg, k_conv, k_alloc, k_boxA, k_boxI, k_boxB, k_boxN, k_boxBs, k_ldR, k_ldA, k_ldI, k_ldB, k_stA, k_stI, k_stB, ldC_some, stC_some, k_mkfn, k_slc, k_slcA, k_ixA, k_ixBs, k_ixSl, k_fadr, k_fld, k_ext, k_len, k_app, k_mn, k_mx, k_nilck, k_build, k_bsl1, k_bsl2, b_add, b_sub, b_mul, b_eql, b_neq, b_lss, b_leq, b_gtr, b_geq, Dn.setLast, Dn.getLast, evalO, mapO, Dn.get, putE, keepE, TV.one, TV.isAgg, Dn.part, c17, c18, c19, c25, c20, y1, y2, y3, y4, y5, y8, y9, y6, hlm, hlX, hfull, w1, w2, ca, cb, hmk, go_denK (c := l6_1) rfl, k1, g5, g21, g22, cs, go_denK (c := l6_3) rfl, q1, c24]
  · have heq : s.1 = s.2 := by omega
    have y6 : ¬ ((s.1 : Int) < (s.2 : Int)) := by omega
    have y7 : ((s.1 : Int) != (s.2 : Int)) = false := by simp; omega
    generalize decide (r ≠ []) = rr at *
    generalize (s.1 : Int) = v1 at *
    generalize (s.2 : Int) = v2 at *
    cases rr with
    | true =>
      simp [-beq_iff_eq, -bne_iff_ne, d6, c6, negb, zipE, go_nil, go_last, go_past, go_pastR, go_blkN, go_blkR, go_blkE, go_skip, go_exit, go_ret, go_scope, go_seq, go_reg, go_block, go_cond, cnd_b, go_opsN, go_ops, go_opsG, grd_b, grd_u, stp_some, fin_some, up_some, cont_some, k_call, k_mv, k_pick, k_bin, k_eqB, k_eqA, k_not, k_neg, k_conv, k_alloc, k_boxA, k_boxI, k_boxB, k_boxN, k_boxBs, k_ldR, k_ldA, k_ldI, k_ldB, k_stA, k_stI, k_stB, ldC_some, stC_some, k_mkfn, k_slc, k_slcA, k_ixA, k_ixBs, k_ixSl, k_fadr, k_fld, k_ext, k_len, k_app, k_mn, k_mx, k_nilck, k_build, k_bsl1, k_bsl2, b_add, b_sub, b_mul, b_eql, b_neq, b_lss, b_leq, b_gtr, b_geq, Dn.setLast, Dn.getLast, evalO, mapO, Dn.get, putE, keepE, TV.one, TV.isAgg, Dn.part, c17, c18, c19, c25, c20, y1, y2, y3, y4, y5, y8, y9, y6, y7, hlm, hlX, hfull, w1, w2, ca, hmk, go_denK (c := l6_1) rfl, k1, g5, g21, g22, cs, go_denK (c := l6_3) rfl, q1, c24]
    | false =>
      simp [-beq_iff_eq, -bne_iff_ne, d6, c6, negb, zipE, go_nil, go_last, go_past, go_pastR, go_blkN, go_blkR, go_blkE, go_skip, go_exit, go_ret, go_scope, go_seq, go_reg, go_block, go_cond, cnd_b, go_opsN, go_ops, go_opsG, grd_b, grd_u, stp_some, fin_some, up_some, cont_some, k_call, k_mv, k_pick, k_bin, k_eqB, k_eqA, k_not, k_neg, k_conv, k_alloc, k_boxA, k_boxI, k_boxB, k_boxN, k_boxBs, k_ldR, k_ldA, k_ldI, k_ldB, k_stA, k_stI, k_stB, ldC_some, stC_some, k_mkfn, k_slc, k_slcA, k_ixA, k_ixBs, k_ixSl, k_fadr, k_fld, k_ext, k_len, k_app, k_mn, k_mx, k_nilck, k_build, k_bsl1, k_bsl2, b_add, b_sub, b_mul, b_eql, b_neq, b_lss, b_leq, b_gtr, b_geq, Dn.setLast, Dn.getLast, evalO, mapO, Dn.get, putE, keepE, TV.one, TV.isAgg, Dn.part, c17, c18, c19, c25, c20, y1, y2, y3, y4, y5, y8, y9, y6, y7, hlm, hlX, hfull, w1, w2, ca, hmk, go_denK (c := l6_1) rfl, k1, g5, g21, g22, cs, go_denK (c := l6_3) rfl, q1, c24]

end Go.Proofs.Tryd.Dn

