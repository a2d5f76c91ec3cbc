/-
  The program: whether a list is a ring of tastes; a ring of all.
-/
import Derived.Test.YtgmlmmgpcbollaaDoorQi
set_option linter.unusedSimpArgs false
set_option linter.unusedVariables false

namespace Go.Proofs.Tryd.Dn
open Go.Dn

theorem call25 {pg : Pg} (hF : Free pg) {X : List Obs} {g : Nat} (hm : Market X g) :
    ∃ r : List Nat, (∀ H, callRun pg (den pg) (.pu []) [.fn 25 [] [], (elS false).lt false X] H = some (.tup [elI.lt false (nI r), .b (decide (r ≠ [])), .i .i64 0], H)) ∧ (r = [] ↔ ¬ ∃ i k, PairT X.length (pref X 1 1) i k) ∧ (r ≠ [] → isRingP X.length (pref X 1 1) (nI r)) ∧ r.length ≤ 5 := by
  have hn5 := hm.n5
  obtain ⟨H1, h1, h2, h3, h4⟩ := body53 hF hm (P := .nilsl) (P' := .nilsl) (ps := []) (elS_RV true true X) (.inl ⟨rfl, rfl⟩) (by simp) (by simp) (H := []) (sn_nil _ _)
  simp only [List.length_nil] at h1 h2
  have c57 := call57 hF hm h2
  obtain ⟨r, c60, r1, r2⟩ := call60 hF hm (all_small hm) (ba := 1) (bb := 1) (by omega) (by omega)
  have c60' := c60 H1 0 h2
  have hnn := nil_ne (pg := pg) (R := den pg) r
  refine ⟨r, fun H => ?_, ?_, fun hne => ?_, ?_⟩
  · have hs : Dn.snap .fin H1 8 (elI.lt false (nI r)) = some (elI.lt false (nI r)) := snap_intsF H1 6 _
    refine PFn.call (.of_go (xs := [(elS true).lt true X]) (x := .ret) (e := [(2, elI.lt false (nI r)), (3, .b (decide (r ≠ []))), (4, .i .i64 0)]) (H' := H1) (vs := [elI.lt false (nI r), .b (decide (r ≠ [])), .i .i64 0]) (hF.S _ _ (by decide)) (d := d25) (by rw [hF.F]; rfl) rfl ?_ (.inl rfl) rfl (by
      show Dn.snap .fin H1 9 (.tup [elI.lt false (nI r), .b (decide (r ≠ [])), .i .i64 0]) = _
      rw [sn_tup]
      simp only [mapO, hs, sn8_b, sn8_i, Option.bind_some, Option.map_some])) (args := [(elS false).lt false X]) (by simp [snapArgs, snZ])
    generalize ((2 ^ X.length - 1 : Nat) : Int) = al at c57 c60'
    generalize hd : decide (r ≠ []) = dd at *
    simp [d25, c25, zipE, go_nil, go_last, go_past, go_pastR, go_blkN, go_blkR, go_blkE, go_skip, go_exit, go_ret, go_scope, go_seq, go_reg, go_block, go_cond, cnd_b, go_opsN, go_ops, go_opsG, grd_b, grd_u, stp_some, fin_some, up_some, cont_some, k_call, k_mv, k_pick, k_bin, k_eqB, k_eqA, k_not, k_neg, k_conv, k_alloc, k_boxA, k_boxI, k_boxB, k_boxN, k_boxBs, k_ldR, k_ldA, k_ldI, k_ldB, k_stA, k_stI, k_stB, ldC_some, stC_some, k_mkfn, k_slc, k_slcA, k_ixA, k_ixBs, k_ixSl, k_fadr, k_fld, k_ext, k_len, k_app, k_mn, k_mx, k_nilck, k_build, k_bsl1, k_bsl2, b_add, b_sub, b_mul, b_eql, b_neq, b_lss, b_leq, b_gtr, b_geq, Dn.setLast, Dn.getLast, evalO, mapO, Dn.get, putE, keepE, TV.one, TV.isAgg, Dn.part, sh_fn, h1, hF.G, c57, c60', hnn]
  · rw [r1]
    constructor
    · rintro h ⟨i, k, hp⟩; exact h ⟨i, k, pair_iff.2 hp⟩
    · rintro h ⟨i, k, hp⟩; exact h ⟨i, k, pair_iff.1 hp⟩
  · obtain ⟨i, k, hp, hw⟩ := r2 hne
    exact hw.ring hp
  · by_cases hne : r = []
    · subst hne; simp
    · obtain ⟨i, k, hp, hw⟩ := r2 hne
      have := nodup_len X.length r hw.nodup hw.lt
      omega

end Go.Proofs.Tryd.Dn

/-
  The waste of a ring, by both.
-/

namespace Go.Proofs.Tryd.Dn
open Go.Dn

end Go.Proofs.Tryd.Dn

/-
  PriceBetter: the whole run answers true.
-/

namespace Go.Proofs.Tryd.Dn
open Go.Dn

end Go.Proofs.Tryd.Dn

