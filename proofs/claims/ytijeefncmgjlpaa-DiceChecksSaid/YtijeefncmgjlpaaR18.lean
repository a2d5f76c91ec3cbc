/-
  Dice: rows checked: the law run.
-/
import Derived.Test.YtijeefncmgjlpaaK3
set_option linter.unusedSimpArgs false
set_option linter.unusedVariables false

set_option maxHeartbeats 4000000
set_option maxRecDepth 100000
namespace Go.Proofs.Try.Dn
open Go.Dn

theorem run18 {pg : Pg} (hF : Free pg) (h23 : PFn pg 23 [] (.b true)) {T : TV} {l : List (List Int)} (hT : SSV T l) (hl : l.length ≤ 9223372036854775807) (hL : ∀ x ∈ l, x.length ≤ 9223372036854775807) : ∃ H, bodyRun pg (den pg) 18 [T] [] = some (.b true, H) := by
  obtain ⟨T', s1, hT'⟩ := snapSSV hT []
  have c54 := PFn.call (fn54 hF hT' hl hL) (args := [T]) (ks := []) (fs := []) (cs := []) (H := []) (by simpa using s1)
  obtain ⟨ls, hls⟩ : ∃ ls, ls = (l.take 7).map fun x => x.take 9 := ⟨_, rfl⟩
  rw [← hls] at c54
  have hn : ls.length ≤ 1000000 := by rw [hls]; simp; omega
  have hN : ∀ x ∈ ls, x.length ≤ 1000000 := fun x hx => by
    rw [hls] at hx
    obtain ⟨y, _, rfl⟩ := List.mem_map.1 hx
    simp; omega
  have hX : SSV ((elR false).lt false ls) ls := elR_SSV false false ls
  generalize (elR false).lt false ls = X at *
  clear hls s1 hT' hT hl hL
  obtain ⟨X', s2, hX'⟩ := snapSSV hX []
  have sx : snapArgs [] [] ([] ++ [X] ++ []) = some [X'] := by simpa using s2
  have c32 := PFn.call (fn32 hF hX' hn hN) (args := [X]) (ks := []) (fs := []) (cs := []) sx
  have c55 := PFn.call (fn55 hF hX' hn hN) (args := [X]) (ks := []) (fs := []) (cs := []) sx
  have hd : pg.F 18 = some d18 := by rw [hF.F]; rfl
  by_cases h0 : chkD ls = 0
  · have c23 := PFn.call h23 (args := []) (ks := []) (fs := []) (cs := []) (H := []) (by simp [snapArgs])
    rw [h0] at c32 c55
    refine ⟨[], body_of (x := .ret) (e := [(2, .b true)]) hd rfl ?_ (.inl rfl) rfl⟩
    clear h0 sx s2 hX' hX hn hN
    simp (maxSteps := 1000000) (disch := omega) [d18, c18, zipE, go_nil, go_last, go_past, go_pastR, go_blkN, go_blkR, go_blkE, go_skip, go_exit, go_ret, go_scope, go_seq, go_reg, go_regd, go_opdN, go_opd, go_opdG, grdd_b, grdd_u, stpd_some, find_some, go_block, go_cond, cnd_b, go_opsN, go_ops, go_opsG, grd_b, grd_u, stp_some, fin_some, up_some, cont_some, k_call, k_mv, k_pick, k_bin, k_eqB, k_eqA, k_not, k_neg, k_conv, k_alloc, k_boxA, k_boxI, k_boxB, k_boxN, k_boxBs, k_ldR, k_ldA, k_ldI, k_ldB, k_stA, k_stI, k_stB, ldC_some, stC_some, k_mkfn, k_slc, k_slcA, k_ixA, k_ixBs, k_ixSl, k_fadr, k_fld, k_ext, k_len, k_app, k_mn, k_mx, k_nilck, k_build, k_bsl1, k_bsl2, b_add, b_sub, b_mul, b_eql, b_neq, b_lss, b_leq, b_gtr, b_geq, Dn.setLast, Dn.getLast, evalO, mapO, Dn.get, putE, keepE_nil, keepE_cons, kp_some, kp_none, TV.one, TV.isAgg, Dn.part, k_boxR, negb, at0, at1, at2, at3, at4, dT, dF, wrapR_i64, Option.bind_some, Option.map_some, c54, c32, c55, c23]
  · have c42 := PFn.call (fn42_bad hF hX' hn hN h0) (args := [X]) (ks := []) (fs := []) (cs := []) sx
    have c43 := PFn.call (fn43_bad hF hX' hn hN h0) (args := [X]) (ks := []) (fs := []) (cs := []) sx
    have c47 := PFn.call (fn47_bad hF hX' hn hN h0 3) (args := [X, .i .i64 3]) (ks := []) (fs := []) (cs := []) (H := []) (by
      obtain ⟨X0, t0, _⟩ := hX.snap [] 6
      have e0 : X0 = X' := by have := sx; simp [snapArgs, t0] at this; exact this
      simp [snapArgs, t0, e0, sn_i])
    -- the row of the one die
    obtain ⟨G1, hG1⟩ : ∃ G1, G1 = ([.cells [.i .i64 1] false, .cells [.sl 0 0 1 false 1 (some 1)] false] : Heap) := ⟨_, rfl⟩
    obtain ⟨G2, hG2⟩ : ∃ G2, G2 = G1 ++ [AObj.cells [.i .i64 1] false, .cells [.sl 2 0 1 false 1 (some 1)] false] := ⟨_, rfl⟩
    obtain ⟨G0, hG0⟩ : ∃ G0, G0 = ([.cells [.i .i64 1] false] : Heap) := ⟨_, rfl⟩
    obtain ⟨G3, hG3⟩ : ∃ G3, G3 = G1 ++ [AObj.cells [.i .i64 1] false] := ⟨_, rfl⟩
    have k0 : dkc pg (den pg) (.bsl false [.i .i64 0] false 1 [0]) [.i .i64 1] [] = some (.sl 0 0 1 false 1 (some 1), G0) := by rw [hG0]; rfl
    have k1 : dkc pg (den pg) (.bsl false [.nilsl] false 1 [0]) [.sl 0 0 1 false 1 (some 1)] G0 = some (.sl 1 0 1 false 1 (some 1), G1) := by rw [hG0, hG1]; rfl
    have k2 : dkc pg (den pg) (.bsl false [.i .i64 0] false 1 [0]) [.i .i64 1] G1 = some (.sl 2 0 1 false 1 (some 1), G3) := by rw [hG3, hG1]; rfl
    have k3 : dkc pg (den pg) (.bsl false [.nilsl] false 1 [0]) [.sl 2 0 1 false 1 (some 1)] G3 = some (.sl 3 0 1 false 1 (some 1), G2) := by rw [hG3, hG2, hG1]; rfl
    have one : SSV (.bs true 1 [.bs true 1 [.i .i64 1]]) [[1]] := .inr ⟨true, _, rfl, rfl, fun i e x he hx => by
      cases i with
      | zero => simp at he hx; subst he hx; exact .inr ⟨true, rfl⟩
      | succ i => simp at he⟩
    obtain ⟨X1, t1, hX1⟩ := hX.snap G1 6
    obtain ⟨X2, t2, hX2⟩ := hX.snap G2 6
    have c49 := PFn.call (fn49_bad1 hF one hX1 hn hN h0) (args := [X, .sl 1 0 1 false 1 (some 1)]) (ks := []) (fs := []) (cs := []) (H := G1) (by
      have e : snap .borrow G1 9 (.sl 1 0 1 false 1 (some 1)) = some (.bs true 1 [.bs true 1 [.i .i64 1]]) := by rw [hG1]; rfl
      simp [snapArgs, t1, e])
    have c49' := PFn.call (fn49_bad2 hF one hX2 hn hN h0 (by simp) (by simp) (by decide)) (args := [.sl 3 0 1 false 1 (some 1), X]) (ks := []) (fs := []) (cs := []) (H := G2) (by
      have e : snap .borrow G2 9 (.sl 3 0 1 false 1 (some 1)) = some (.bs true 1 [.bs true 1 [.i .i64 1]]) := by rw [hG2, hG1]; rfl
      simp [snapArgs, t2, e])
    have sx1 : snapArgs G1 [] ([] ++ [X] ++ []) = some [X1] := by simp [snapArgs, t1]
    have c29 := PFn.call (fn29_bad hF hX1 hn hN h0) (args := [X]) (ks := []) (fs := []) (cs := []) sx1
    have c35 := PFn.call (fn35_bad hF hX1 hn hN h0) (args := [X]) (ks := []) (fs := []) (cs := []) sx1
    have c36 := PFn.call (fn36_bad hF hX1 hn hN h0) (args := [X]) (ks := []) (fs := []) (cs := []) sx1
    have c41 := PFn.call (fn41_bad hF hX1 hn hN h0) (args := [X]) (ks := []) (fs := []) (cs := []) sx1
    have c51 := PFn.call (fn51_bad hF hX1 hn hN h0) (args := [X]) (ks := []) (fs := []) (cs := []) sx1
    have c23 := PFn.call h23 (args := []) (ks := []) (fs := []) (cs := []) (H := G2) (by simp [snapArgs])
    have l0 : ∀ K, lenK 0 .nilsl K = some 0 := fun K => rfl
    refine ⟨G2, body_of (x := .ret) (e := [(2, .b true)]) hd rfl ?_ (.inl rfl) rfl⟩
    clear sx sx1 s2 hX' hX hX1 hX2 t1 t2 one hG0 hG1 hG2 hG3 hn hN
    generalize chkD ls = C at *
    simp (maxSteps := 1000000) (disch := omega) [d18, c18, zipE, go_nil, go_last, go_past, go_pastR, go_blkN, go_blkR, go_blkE, go_skip, go_exit, go_ret, go_scope, go_seq, go_reg, go_regd, go_opdN, go_opd, go_opdG, grdd_b, grdd_u, stpd_some, find_some, go_block, go_cond, cnd_b, go_opsN, go_ops, go_opsG, grd_b, grd_u, stp_some, fin_some, up_some, cont_some, k_call, k_mv, k_pick, k_bin, k_eqB, k_eqA, k_not, k_neg, k_conv, k_alloc, k_boxA, k_boxI, k_boxB, k_boxN, k_boxBs, k_ldR, k_ldA, k_ldI, k_ldB, k_stA, k_stI, k_stB, ldC_some, stC_some, k_mkfn, k_slc, k_slcA, k_ixA, k_ixBs, k_ixSl, k_fadr, k_fld, k_ext, k_len, k_app, k_mn, k_mx, k_nilck, k_build, k_bsl1, k_bsl2, b_add, b_sub, b_mul, b_eql, b_neq, b_lss, b_leq, b_gtr, b_geq, Dn.setLast, Dn.getLast, evalO, mapO, Dn.get, putE, keepE_nil, keepE_cons, kp_some, kp_none, TV.one, TV.isAgg, Dn.part, k_boxR, negb, at0, at1, at2, at3, at4, dT, dF, wrapR_i64, Option.bind_some, Option.map_some, c54, c32, c55, c42, c43, c47, c49, c49', c29, c35, c36, c41, c51, c23, k0, k1, k2, k3, h0, l0, -k_bsl1]

end Go.Proofs.Try.Dn

