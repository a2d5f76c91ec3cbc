/-
  Dice: lists that are not both dice: the law run.
-/
import Derived.Test.YtijeefncmgjlpaaK1
import Derived.Test.YtijeefncmgjlpaaEm
import Derived.Test.YtijeefncmgjlpaaEb
set_option linter.unusedSimpArgs false
set_option linter.unusedVariables false

set_option maxHeartbeats 4000000
set_option maxRecDepth 100000
namespace Go.Proofs.Try.Dn
open Go.Dn

theorem call31 {pg : Pg} (hF : Free pg) {A : TV} {l : List Int} (hA : SV A l) (hl : l.length ≤ 9223372036854775807) (H : Heap) : callRun pg (den pg) (.pu []) [.fn 31 [] [], A] H = some (elI.lt false (l.take 9), H) := by
  obtain ⟨A', s1, hA'⟩ := hA.snap H 7
  exact PFn.call (fn31 hF hA' hl) (args := [A]) (ks := []) (fs := []) (cs := []) (by simp [snapArgs, s1])

theorem run7 {pg : Pg} (hF : Free pg) (hQ : pg.Q 81 = some 2) (h23 : PFn pg 23 [] (.b true)) {A B : TV} {a b : List Int} (hA : SV A a) (ha : a.length ≤ 9223372036854775807) (hB : SV B b) (hb : b.length ≤ 9223372036854775807) : ∃ H, bodyRun pg (den pg) 7 [A, B] [] = some (.b true, H) := by
  have c31a := call31 (pg := pg) hF hA ha []
  have c31b := call31 (pg := pg) hF hB hb []
  obtain ⟨x, hx⟩ : ∃ x, x = a.take 9 := ⟨_, rfl⟩
  obtain ⟨y, hy⟩ : ∃ y, y = b.take 9 := ⟨_, rfl⟩
  have lx : x.length ≤ 9 := by rw [hx]; simp; omega
  have ly : y.length ≤ 9 := by rw [hy]; simp; omega
  rw [← hx] at c31a
  rw [← hy] at c31b
  have hX := SV.lt false x
  have hY := SV.lt false y
  generalize elI.lt false x = X at *
  generalize elI.lt false y = Y at *
  obtain ⟨b1, T, b2, hT⟩ := two (pg := pg) hX hY []
  obtain ⟨H1, hH1⟩ : ∃ H1, H1 = ([] : Heap) ++ [AObj.cells [X, Y] false] := ⟨_, rfl⟩
  rw [← hH1] at b1 b2
  simp only [List.length_nil] at b1 b2
  have hlen : ∀ z ∈ [x, y], z.length ≤ 1000000 := fun z hz => by
    simp at hz
    rcases hz with rfl | rfl <;> omega
  have c32 := PFn.call (fn32 (pg := pg) hF hT (by simp) hlen) (args := [.sl 0 0 1 false 2 (some 2)]) (ks := []) (fs := []) (cs := []) (H := H1) (by simp [snapArgs, b2])
  obtain ⟨X', s1, hX'⟩ := hX.snap H1 7
  obtain ⟨Y', s2, hY'⟩ := hY.snap H1 7
  have hsn : snapArgs H1 [] ([] ++ [X, Y] ++ []) = some [X', Y'] := by simp [snapArgs, s1, s2]
  have c33 := PFn.call (fn33 (pg := pg) hF hX' hY' (by omega) (by omega)) (args := [X, Y]) (ks := []) (fs := []) (cs := []) (H := H1) hsn
  have c34 := PFn.call (fn34 (pg := pg) hF hX' hY' (by omega) (by omega)) (args := [X, Y]) (ks := []) (fs := []) (cs := []) (H := H1) hsn
  have c23 := PFn.call h23 (args := []) (ks := []) (fs := []) (cs := []) (H := H1) (by simp [snapArgs])
  have hd : pg.F 7 = some d7 := by rw [hF.F]; rfl
  clear hH1 hlen s1 s2 b2 hX hY hA hB
  by_cases h0 : chkD [x, y] = 0
  · have c20 := PFn.call (fn20 hF hQ hX' hY' h0) (args := [X, Y]) (ks := []) (fs := []) (cs := []) (H := H1) hsn
    rw [if_pos h0] at c33
    rw [h0] at c32
    generalize LPv (twinsL x y) = P at *
    generalize (more x y : Int) = m1 at *
    generalize (less x y : Int) = m2 at *
    generalize (same x y : Int) = m3 at *
    clear h0 hsn hT hX' hY' hx hy lx ly ha hb
    refine ⟨H1, body_of (x := .ret) (e := [(4, .b true)]) hd rfl ?_ (.inl rfl) rfl⟩
    simp (maxSteps := 1000000) (disch := omega) [d7, c7, zipE, go_nil, go_last, go_past, go_pastR, go_blkN, go_blkR, go_blkE, go_skip, go_exit, go_ret, go_scope, go_seq, go_reg, go_regd, go_opdN, go_opd, go_opdG, grdd_b, grdd_u, stpd_some, find_some, go_block, go_cond, cnd_b, go_opsN, go_ops, go_opsG, grd_b, grd_u, stp_some, fin_some, up_some, cont_some, k_call, k_mv, k_pick, k_bin, k_eqB, k_eqA, k_not, k_neg, k_conv, k_alloc, k_boxA, k_boxI, k_boxB, k_boxN, k_boxBs, k_ldR, k_ldA, k_ldI, k_ldB, k_stA, k_stI, k_stB, ldC_some, stC_some, k_mkfn, k_slc, k_slcA, k_ixA, k_ixBs, k_ixSl, k_fadr, k_fld, k_ext, k_len, k_app, k_mn, k_mx, k_nilck, k_build, k_bsl1, k_bsl2, b_add, b_sub, b_mul, b_eql, b_neq, b_lss, b_leq, b_gtr, b_geq, Dn.setLast, Dn.getLast, evalO, mapO, Dn.get, putE, keepE_nil, keepE_cons, kp_some, kp_none, TV.one, TV.isAgg, Dn.part, k_boxR, negb, at0, at1, at2, at3, at4, dT, dF, wrapR_i64, Option.bind_some, Option.map_some, c31a, c31b, b1, c32, c33, c34, c20, c23]
  · have c20 := PFn.call (fn20_bad hF hX' hY' (by omega) (by omega) h0) (args := [X, Y]) (ks := []) (fs := []) (cs := []) (H := H1) hsn
    rw [if_neg h0] at c33
    generalize chkD [x, y] = C at *
    clear hsn hT hX' hY' hx hy lx ly ha hb
    refine ⟨H1, body_of (x := .ret) (e := [(4, .b true)]) hd rfl ?_ (.inl rfl) rfl⟩
    have l0 : ∀ K, lenK 0 .nilsl K = some 0 := fun K => rfl
    simp (maxSteps := 1000000) (disch := omega) [d7, c7, zipE, go_nil, go_last, go_past, go_pastR, go_blkN, go_blkR, go_blkE, go_skip, go_exit, go_ret, go_scope, go_seq, go_reg, go_regd, go_opdN, go_opd, go_opdG, grdd_b, grdd_u, stpd_some, find_some, go_block, go_cond, cnd_b, go_opsN, go_ops, go_opsG, grd_b, grd_u, stp_some, fin_some, up_some, cont_some, k_call, k_mv, k_pick, k_bin, k_eqB, k_eqA, k_not, k_neg, k_conv, k_alloc, k_boxA, k_boxI, k_boxB, k_boxN, k_boxBs, k_ldR, k_ldA, k_ldI, k_ldB, k_stA, k_stI, k_stB, ldC_some, stC_some, k_mkfn, k_slc, k_slcA, k_ixA, k_ixBs, k_ixSl, k_fadr, k_fld, k_ext, k_len, k_app, k_mn, k_mx, k_nilck, k_build, k_bsl1, k_bsl2, b_add, b_sub, b_mul, b_eql, b_neq, b_lss, b_leq, b_gtr, b_geq, Dn.setLast, Dn.getLast, evalO, mapO, Dn.get, putE, keepE_nil, keepE_cons, kp_some, kp_none, TV.one, TV.isAgg, Dn.part, k_boxR, negb, at0, at1, at2, at3, at4, dT, dF, wrapR_i64, Option.bind_some, Option.map_some, c31a, c31b, b1, c32, c33, c20, c23, h0, l0]

end Go.Proofs.Try.Dn

