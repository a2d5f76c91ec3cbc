/-
  Knight: the laws of quiet knights, run.
-/
import Derived.Test.YtdjbpmgbaggfbaaDoorKfh
import Derived.Test.YtdjbpmgbaggfbaaDoorKf
set_option linter.unusedSimpArgs false
set_option linter.unusedVariables false

namespace Go.Proofs.Tryd.Dn
open Go.Dn

theorem quiet_facts {r c : Nat} (h : Brd r c) : quietB r c (quietS r c) = true ∧ pop 64 (quietS r c) + pairN r c (colM r c 0) (colM r c 1) = r * c ∧ (pairsOf r c).length = pairN r c (colM r c 0) (colM r c 1) ∧ pairOk r c (pairsOf r c) = true ∧ (r < 3 ∨ c < 3 ∨ pop 64 (quietS r c) = (r * c + 1) / 2) := by
  have := h.ok quiet_ev
  unfold quietOk at this
  simp only [Bool.and_eq_true, Bool.or_eq_true, decide_eq_true_eq] at this
  obtain ⟨⟨⟨⟨a1, a2⟩, a3⟩, a4⟩, a5⟩ := this
  refine ⟨a1, a2, a3, a4, ?_⟩
  rcases a5 with (a5 | a5) | a5
  · exact .inl a5
  · exact .inr (.inl a5)
  · exact .inr (.inr a5)

theorem snap_pairsB (H : Heap) (b : Bool) (l : List (Int × Int)) : snap .borrow H 9 (elP.lt b l) = some (elP.lt true l) := El.lt_snap elP_flat b l H

theorem call49 {pg : Pg} (hF : Free pg) {r c : Nat} (h : Brd r c) {l : List (Int × Int)} (b : Bool) (h64 : l.length ≤ 1000000) (hok : pairOk r c l = true) (H : Heap) : callRun pg (den pg) (.pu []) [.fn 49 [] [], .i .i64 (r : Int), .i .i64 (c : Int), elP.lt b l] H = some (.b true, H) := by
  have hs := snap_pairsB H b l
  exact PFn.call (fn49 hF h (SVP.lt true l) h64 hok) (args := [.i .i64 (r : Int), .i .i64 (c : Int), elP.lt b l]) (ks := []) (fs := []) (cs := []) (H := H) (by simp [snapArgs, sn_i, hs])

set_option maxRecDepth 100000 in
theorem run10 {pg : Pg} (hF : Free pg) (h25 : PFn pg 25 [] (.b true)) (x y : Int) : ∃ H, bodyRun pg (den pg) 10 [.i .i64 x, .i .i64 y] [] = some (.b true, H) := by
  obtain ⟨r, c, h, c18⟩ := call18 hF x y
  have hn := h.n36
  have h63 := lt63 h
  obtain ⟨hcast, wn⟩ := rc_facts h
  obtain ⟨f1, f2, f3, f4, f5⟩ := quiet_facts h
  have c25 := fun H => PFn.call h25 (args := []) (ks := []) (fs := []) (cs := []) (H := H) (by simp [snapArgs])
  have c45 := fun H => PFn.at (fn45 hF h) (fun H => sa_I (sa_I sa_0)) H
  have c46 := fun H => PFn.at (fn46 hF h) (fun H => sa_I (sa_I sa_0)) H
  have c47 := fun H => PFn.at (fn47 hF h) (fun H => sa_I (sa_I sa_0)) H
  have hq := quietS_lt h
  have c40 := fun H => PFn.at (fn40 hF h hq) (fun H => sa_I (sa_I (sa_I sa_0))) H
  rw [f1] at c40
  have c48 := fun H => call48 (pg := pg) hF (x := quietS r c) (by omega) H
  have shi := Dn.shl_i (k := .i64) (c := r * c) (by omega)
  rw [hcast] at shi
  have v0 : decide ((0 : Int) ≤ (quietS r c : Int)) = true := dT (by omega)
  have vl : decide ((quietS r c : Int) < ((2 ^ (r * c) : Nat) : Int)) = true := dT (by omega)
  have hle := pairN_le (r := r) (c := c) (frm := colM r c 0) (to := colM r c 1)
  have c49 := fun H => call49 (pg := pg) hF h false (l := pairsOf r c) (by omega) f4 H
  have hlen := fun K => El.lt_len (E := elP) false (pairsOf r c) K
  rw [f3] at hlen
  have wsub : wrapR .i64 ((r : Int) * c - (pairN r c (colM r c 0) (colM r c 1) : Int)) = .i .i64 (pop 64 (quietS r c) : Int) := by
    rw [show (r : Int) * c - (pairN r c (colM r c 0) (colM r c 1) : Int) = (pop 64 (quietS r c) : Int) by rw [← hcast]; omega]
    exact wrapR_i64 (by omega)
  refine ⟨[], body_of (x := .ret) (e := [(4, .b true)]) (d := d10) (by rw [hF.F]; rfl) rfl ?_ (.inl rfl) rfl⟩
  clear f1 f2 f3 f4 f5 hle
  generalize elP.lt false (pairsOf r c) = PL at *
  generalize pop 64 (quietS r c) = PQ at *
  generalize quietS r c = QS' at *
  generalize pairN r c (colM r c 0) (colM r c 1) = PN at *
  generalize ((2 ^ (r * c) : Nat) : Int) = P2 at *
  simp (disch := omega) [d10, c10, zipE, go_nil, go_last, go_past, go_pastR, go_blkN, go_blkR, go_blkE, go_skip, go_exit, go_ret, go_scope, go_seq, go_reg, go_regd, go_opdN, go_opd, go_opdG, grdd_b, grdd_u, stpd_some, find_some, go_block, go_cond, cnd_b, go_opsN, go_ops, go_opsG, grd_b, grd_u, stp_some, fin_some, up_some, cont_some, k_call, k_mv, k_pick, k_bin, k_eqB, k_eqA, k_not, k_neg, k_conv, k_alloc, k_boxA, k_boxI, k_boxB, k_boxN, k_boxBs, k_ldR, k_ldA, k_ldI, k_ldB, k_stA, k_stI, k_stB, ldC_some, stC_some, k_mkfn, k_slc, k_slcA, k_ixA, k_ixBs, k_ixSl, k_fadr, k_fld, k_ext, k_len, k_app, k_mn, k_mx, k_nilck, k_build, k_bsl1, k_bsl2, b_add, b_sub, b_mul, b_eql, b_neq, b_lss, b_leq, b_gtr, b_geq, Dn.setLast, Dn.getLast, evalO, mapO, Dn.get, putE, keepE_nil, keepE_cons, kp_some, kp_none, TV.one, TV.isAgg, Dn.part, k_boxR, negb, at0, at1, at2, at3, at4, dT, dF, wrapR_i64, Option.bind_some, Option.map_some, c18, wn, c45, c46, c47, c40, c48, shi, v0, vl, wsub, hlen, c49, c25]

end Go.Proofs.Tryd.Dn

