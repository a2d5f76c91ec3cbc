/-
  PriceShares: the whole run answers true.
-/
import Derived.Test.YtgmlmmgpcbollaaDoorQn
set_option linter.unusedSimpArgs false
set_option linter.unusedVariables false

namespace Go.Proofs.Tryd.Dn
open Go.Dn

theorem run3 {pg : Pg} (hF : Free pg) (h24 : PFn pg 24 [] (.b true)) {T : TV} {l : List Obs} (hT : Rws T l) (hl : l.length ≤ 9223372036854775807) (n : Int) : ∃ H, bodyRun pg (den pg) 3 [T, .i .i64 n] [] = some (.b true, H) := by
  obtain ⟨X, g, hm, c17⟩ := call17 hF hT hl n
  have c18 := call18m hF hm
  have c24 := fun H => PFn.call h24 (args := []) (ks := []) (fs := []) (cs := []) (H := H) (by simp [snapArgs])
  obtain ⟨s, hs, ssm, c19⟩ := call19 hF hm
  obtain ⟨u, hu, c21⟩ := call21 hF hm
  obtain rfl := hs.unique hu fun t _ => Iff.rfl
  have c20 := call20 hF hm
  have c23 := call23 hF hm
  have hml := mostN_len X (2 ^ X.length - 1)
  have c22 := call22 hF (SV.lt false (nI (mostN X (2 ^ X.length - 1)))) (SV.lt false (nI (mostN X (2 ^ X.length - 1)))) (by rw [nI_len]; omega)
  have st0 := st2 (pg := pg) (R := den pg) [] 0 0 (s.1 : Int) (s.2 : Int)
  simp only [List.length_nil, List.nil_append] at st0
  obtain ⟨r1, r2⟩ := ldp (pg := pg) (R := den pg) (H := [.cells [.i .i64 (s.1 : Int), .i .i64 (s.2 : Int)] true]) (id := 0) rfl
  simp only [frV_eq] at c21
  generalize elI.lt false (nI (mostN X (2 ^ X.length - 1))) = best at *
  generalize (s.1 : Int) = v1 at *
  generalize (s.2 : Int) = v2 at *
  refine ⟨[.cells [.i .i64 v1, .i .i64 v2] true], body_of (x := .ret) (e := [(4, .b true)]) (d := d3) (by rw [hF.F]; rfl) rfl ?_ (.inl rfl) rfl⟩
  simp [d3, c3, zipE, go_nil, go_last, go_past, go_pastR, go_blkN, go_blkR, go_blkE, go_skip, go_exit, go_ret, go_scope, go_seq, go_reg, go_block, go_cond, cnd_b, go_opsN, go_ops, go_opsG, grd_b, grd_u, stp_some, fin_some, up_some, cont_some, k_call, k_mv, k_pick, k_bin, k_eqB, k_eqA, k_not, k_neg, k_conv, k_alloc, k_boxA, k_boxI, k_boxB, k_boxN, k_boxBs, k_ldR, k_ldA, k_ldI, k_ldB, k_stA, k_stI, k_stB, ldC_some, stC_some, k_mkfn, k_slc, k_slcA, k_ixA, k_ixBs, k_ixSl, k_fadr, k_fld, k_ext, k_len, k_app, k_mn, k_mx, k_nilck, k_build, k_bsl1, k_bsl2, b_add, b_sub, b_mul, b_eql, b_neq, b_lss, b_leq, b_gtr, b_geq, Dn.setLast, Dn.getLast, evalO, mapO, Dn.get, putE, keepE, TV.one, TV.isAgg, Dn.part, c17, c18, c19, c20, c21, st0, r1, r2, c23, c22, c24]

end Go.Proofs.Tryd.Dn

