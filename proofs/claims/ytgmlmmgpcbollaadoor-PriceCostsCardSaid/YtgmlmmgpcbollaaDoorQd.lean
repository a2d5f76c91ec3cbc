/-
  PriceCosts: the whole run answers true.
-/
import Derived.Test.YtgmlmmgpcbollaaDoorQb
set_option linter.unusedSimpArgs false
set_option linter.unusedVariables false

namespace Go.Proofs.Tryd.Dn
open Go.Dn

theorem cut_id {X : List Obs} {g : Nat} (hm : Market X g) : X.map (cut 4) = X := by
  have : ∀ x ∈ X, cut 4 x = x := by
    intro x hx
    obtain ⟨a1, a2, _⟩ := okObs_iff.1 (hm.ok x hx)
    have := hm.g3
    unfold cut
    rw [List.take_of_length_le (by omega), List.take_of_length_le (by omega)]
  calc X.map (cut 4) = X.map id := List.map_congr_left this
    _ = X := by simp

/-- given, of observations -/
theorem call18m {pg : Pg} (hF : Free pg) {X : List Obs} {g : Nat} (hm : Market X g) (H : Heap) : callRun pg (den pg) (.pu []) [.fn 18 [] [], (elS false).lt false X] H = some ((elS false).lt false X, H) := by
  have := call18 hF (elS_RV false false X) (market_lens hm).1 H
  rwa [cut_id hm] at this

theorem costs_rows {X : List Obs} {g : Nat} (hm : Market X g) : (costs X).length ≤ 1000000 ∧ ∀ r ∈ costs X, r.length ≤ 1000000 := by
  have := hm.n5
  refine ⟨by rw [costs_len]; omega, fun r hr => ?_⟩
  obtain ⟨i, _, rfl⟩ := List.mem_map.1 hr
  simp [costRow]; omega
theorem prefs_rows {X : List Obs} {g : Nat} (hm : Market X g) (a b : Int) : (prefs X a b).length ≤ 1000000 ∧ ∀ r ∈ prefs X a b, r.length ≤ 1000000 := by
  have := hm.n5
  refine ⟨by simp [prefs]; omega, fun r hr => ?_⟩
  obtain ⟨i, _, rfl⟩ := List.mem_map.1 hr
  simp [prefRow]; omega

theorem run10 {pg : Pg} (hF : Free pg) (h24 : PFn pg 24 [] (.b true)) {T : TV} {l : List Obs} (hT : Rws T l) (hl : l.length ≤ 9223372036854775807) (n : Int) : ∃ H, bodyRun pg (den pg) 10 [T, .i .i64 n] [] = some (.b true, H) := by
  obtain ⟨X, g, hm, c17⟩ := call17 hF hT hl n
  have hX := elS_RV false false X
  have c18 := call18m hF hm
  have c34 := call34 hF hm hX
  have c38 := call38 hF hm hX
  have c37 := call37 hF hm hX
  have c26 := call26 hF hm hX (a := 1) (b := 1) (by omega) (by omega)
  have c36 := call36 hF (costs_rows hm).1 (costs_rows hm).2
  have c36' := call36 hF (prefs_rows hm 1 1).1 (prefs_rows hm 1 1).2
  have c24 := fun H => PFn.call h24 (args := []) (ks := []) (fs := []) (cs := []) (H := H) (by simp [snapArgs])
  refine ⟨[], body_of (x := .ret) (e := [(4, .b true)]) (d := d10) (by rw [hF.F]; rfl) rfl ?_ (.inl rfl) rfl⟩
  simp [d10, c10, zipE, go_nil, go_last, go_past, go_pastR, go_blkN, go_blkR, go_blkE, go_skip, go_exit, go_ret, go_scope, go_seq, go_reg, go_block, go_cond, cnd_b, go_opsN, go_ops, go_opsG, grd_b, grd_u, stp_some, fin_some, up_some, cont_some, k_call, k_mv, k_pick, k_bin, k_eqB, k_eqA, k_not, k_neg, k_conv, k_alloc, k_boxA, k_boxI, k_boxB, k_boxN, k_boxBs, k_ldR, k_ldA, k_ldI, k_ldB, k_stA, k_stI, k_stB, ldC_some, stC_some, k_mkfn, k_slc, k_slcA, k_ixA, k_ixBs, k_ixSl, k_fadr, k_fld, k_ext, k_len, k_app, k_mn, k_mx, k_nilck, k_build, k_bsl1, k_bsl2, b_add, b_sub, b_mul, b_eql, b_neq, b_lss, b_leq, b_gtr, b_geq, Dn.setLast, Dn.getLast, evalO, mapO, Dn.get, putE, keepE, TV.one, TV.isAgg, Dn.part, c17, c18, c34, c38, c37, c26, c36, c36', c24]

end Go.Proofs.Tryd.Dn

