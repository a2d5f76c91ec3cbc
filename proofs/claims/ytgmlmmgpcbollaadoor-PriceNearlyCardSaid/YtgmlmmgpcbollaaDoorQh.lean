/-
  PriceWeak: the whole run answers true.
-/
import Derived.Test.YtgmlmmgpcbollaaDoorQg
set_option linter.unusedSimpArgs false
set_option linter.unusedVariables false

namespace Go.Proofs.Tryd.Dn
open Go.Dn

def badShare (a b : Int) : Prop := b < 1 ∨ 2000 < b ∨ a < 0 ∨ b < a

theorem all_small {X : List Obs} {g : Nat} (hm : Market X g) : 2 ^ X.length - 1 < 65536 := by
  have := (pow5 hm.n5).2; omega

theorem call33 {pg : Pg} (hF : Free pg) {X : List Obs} {g : Nat} (hm : Market X g) {a b : Int} (hb : ¬ badShare a b) :
    ∃ r : List Nat, (∀ H, callRun pg (den pg) (.pu []) [.fn 33 [] [], (elS false).lt false X, .i .i64 a, .i .i64 b] H = some (.tup [elI.lt false (nI r), .b (decide (r ≠ [])), .i .i64 0], H)) ∧ (r = [] ↔ ¬ ∃ i k, PairT X.length (pref X a b) i k) ∧ (r ≠ [] → isRingP X.length (pref X a b) (nI r)) ∧ r.length ≤ 5 := by
  have hn5 := hm.n5
  have hb' : 1 ≤ b ∧ b ≤ 2000 ∧ 0 ≤ a ∧ a ≤ b := by unfold badShare at hb; omega
  obtain ⟨H1, h1, h2, h3, h4⟩ := body53 hF hm (P := .nilsl) (P' := .nilsl) (ps := []) (elS_RV true true X) (.inl ⟨rfl, rfl⟩) (by simp) (by simp) (H := []) (sn_nil _ _)
  simp only [List.length_nil] at h1 h2
  have c57 := call57 hF hm h2
  obtain ⟨r, c60, r1, r2⟩ := call60 hF hm (all_small hm) (ba := a) (bb := b) (by omega) (by omega)
  have c60' := c60 H1 0 h2
  have hnn := nil_ne (pg := pg) (R := den pg) r
  have c1 : ¬ b < 1 := by omega
  have c2 : ¬ 2000 < b := by omega
  have c3 : ¬ a < 0 := by omega
  have c4 : ¬ b < a := by omega
  refine ⟨r, fun H => ?_, ?_, fun hne => ?_, ?_⟩
  · have hs : Dn.snap .fin H1 8 (elI.lt false (nI r)) = some (elI.lt false (nI r)) := snap_intsF H1 6 _
    refine PFn.call (.of_go (xs := [(elS true).lt true X, .i .i64 a, .i .i64 b]) (x := .ret) (e := [(6, elI.lt false (nI r)), (7, .b (decide (r ≠ []))), (8, .i .i64 0)]) (H' := H1) (vs := [elI.lt false (nI r), .b (decide (r ≠ [])), .i .i64 0]) (hF.S _ _ (by decide)) (d := d33) (by rw [hF.F]; rfl) rfl ?_ (.inl rfl) rfl (by
      show Dn.snap .fin H1 9 (.tup [elI.lt false (nI r), .b (decide (r ≠ [])), .i .i64 0]) = _
      rw [sn_tup]
      simp only [mapO, hs, sn8_b, sn8_i, Option.bind_some, Option.map_some])) (args := [(elS false).lt false X, .i .i64 a, .i .i64 b]) (by simp [snapArgs, snap_pairs false false H 5 X, sn_i])
    generalize ((2 ^ X.length - 1 : Nat) : Int) = al at c57 c60'
    generalize hd : decide (r ≠ []) = dd at *
    simp [d33, c33, zipE, go_nil, go_last, go_past, go_pastR, go_blkN, go_blkR, go_blkE, go_skip, go_exit, go_ret, go_scope, go_seq, go_reg, go_block, go_cond, cnd_b, go_opsN, go_ops, go_opsG, grd_b, grd_u, stp_some, fin_some, up_some, cont_some, k_call, k_mv, k_pick, k_bin, k_eqB, k_eqA, k_not, k_neg, k_conv, k_alloc, k_boxA, k_boxI, k_boxB, k_boxN, k_boxBs, k_ldR, k_ldA, k_ldI, k_ldB, k_stA, k_stI, k_stB, ldC_some, stC_some, k_mkfn, k_slc, k_slcA, k_ixA, k_ixBs, k_ixSl, k_fadr, k_fld, k_ext, k_len, k_app, k_mn, k_mx, k_nilck, k_build, k_bsl1, k_bsl2, b_add, b_sub, b_mul, b_eql, b_neq, b_lss, b_leq, b_gtr, b_geq, Dn.setLast, Dn.getLast, evalO, mapO, Dn.get, putE, keepE, TV.one, TV.isAgg, Dn.part, sh_fn, h1, c1, c2, c3, c4, c57, fillP, put2, TV.cells, c60', hnn]
  · rw [r1]
    constructor
    · rintro h ⟨i, k, hp⟩; exact h ⟨i, k, pair_iff.2 hp⟩
    · rintro h ⟨i, k, hp⟩; exact h ⟨i, k, pair_iff.1 hp⟩
  · obtain ⟨i, k, hp, hw⟩ := r2 hne
    exact hw.ring hp
  · by_cases hne : r = []
    · subst hne; simp
    · obtain ⟨i, k, hp, hw⟩ := r2 hne
      have := nodup_len X.length r hw.nodup hw.lt
      omega

end Go.Proofs.Tryd.Dn

