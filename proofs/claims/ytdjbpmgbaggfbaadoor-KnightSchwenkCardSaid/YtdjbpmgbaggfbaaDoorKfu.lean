/-
  Knight: closed tours and tours, found or not, in the program.
-/
import Derived.Test.YtdjbpmgbaggfbaaDoorKft
import Derived.Test.YtdjbpmgbaggfbaaDoorKfp
import Derived.Test.YtdjbpmgbaggfbaaDoorKe
import Derived.Test.YtdjbpmgbaggfbaaDoorKf9
set_option linter.unusedSimpArgs false
set_option linter.unusedVariables false

namespace Go.Proofs.Tryd.Dn
open Go.Dn

def hasCl (r c : Nat) : Bool := witC.any fun w => w.1 == r && w.2.1 == c
def hasTr (r c : Nat) : Bool := !noTour.contains (r, c)

theorem clos_yes {r c : Nat} (h : hasCl r c = true) : ∃ q, Compl c 0 true 0 (allBut (r * c) 0) q := by
  unfold hasCl at h
  obtain ⟨w, hw, h1⟩ := List.any_eq_true.1 h
  rw [Bool.and_eq_true, beq_iff_eq, beq_iff_eq] at h1
  obtain ⟨rfl, rfl⟩ := h1
  have h2 := List.all_eq_true.1 witC_ok w hw
  have h3 : (witC.all fun w => w.2.2.1 == 0) = true := by kernel_rfl
  have h4 := List.all_eq_true.1 h3 w hw
  rw [beq_iff_eq] at h4
  rw [h4] at h2
  exact ⟨_, complB_is _ _ _ h2⟩

theorem on_board {r c : Nat} (h : Brd r c) : (r, c) ∈ boards := by
  have := h.ok (P := fun r c => boards.contains (r, c)) (by kernel_rfl)
  simpa using this

theorem tight_off {r c : Nat} (h : Brd r c) : (tightS r c).isSome = !noTight.contains (r, c) := by
  have := List.all_eq_true.1 tight_some (r, c) (on_board h)
  exact beq_iff_eq.1 this

theorem cl_tight {r c : Nat} (h : Brd r c) (ht : (tightS r c).isSome = true) : hasCl r c = false := by
  have h1 := h.ok (P := fun r c => !hasCl r c || noTight.contains (r, c)) (by kernel_rfl)
  rw [tight_off h] at ht
  cases hc : hasCl r c with
  | false => rfl
  | true =>
    rw [hc] at h1
    have h2 : noTight.contains (r, c) = true := h1
    rw [h2] at ht
    cases ht

theorem clos_no {r c : Nat} (h : Brd r c) (ht : (tightS r c).isSome = false) (hc : hasCl r c = false) : ∀ q, ¬ Compl c 0 true 0 (allBut (r * c) 0) q := by
  have h1 := h.ok (P := fun r c => hasCl r c || !noTight.contains (r, c) || [(1, 2), (2, 1), (3, 8), (8, 3)].contains (r, c)) (by kernel_rfl)
  rw [tight_off h] at ht
  have h2 : noTight.contains (r, c) = true := by simpa using ht
  rw [hc, h2] at h1
  have h3 : (r, c) ∈ [(1, 2), (2, 1), (3, 8), (8, 3)] := by
    have h4 : ([(1, 2), (2, 1), (3, 8), (8, 3)] : List (Nat × Nat)).contains (r, c) = true := h1
    simpa using h4
  simp only [List.mem_cons, Prod.mk.injEq, List.not_mem_nil, or_false] at h3
  rcases h3 with ⟨rfl, rfl⟩ | ⟨rfl, rfl⟩ | ⟨rfl, rfl⟩ | ⟨rfl, rfl⟩
  · exact none_of h (by decide) noC_1_2
  · exact none_of h (by decide) noC_2_1
  · exact none_of h (by decide) noC_3_8
  · exact none_of h (by decide) noC_8_3

theorem tour_yes {r c : Nat} (h : Brd r c) (hb : hasTr r c = true) : ∃ s, s < r * c ∧ ∃ q, Compl c s false s (allBut (r * c) s) q := by
  have h1 := h.ok (P := fun r c => noTour.contains (r, c) || witO.any fun w => w.1 == r && w.2.1 == c) (by kernel_rfl)
  have h0 : noTour.contains (r, c) = false := by unfold hasTr at hb; simpa using hb
  rw [h0, Bool.false_or] at h1
  obtain ⟨w, hw, h1⟩ := List.any_eq_true.1 h1
  rw [Bool.and_eq_true, beq_iff_eq, beq_iff_eq] at h1
  obtain ⟨rfl, rfl⟩ := h1
  have h2 := List.all_eq_true.1 witO_ok w hw
  have h3 : (witO.all fun w => decide (w.2.2.1 < w.1 * w.2.1)) = true := by kernel_rfl
  have h4 := of_decide_eq_true (List.all_eq_true.1 h3 w hw)
  exact ⟨_, h4, _, complB_is _ _ _ h2⟩

theorem noneB_at {r c s : Nat} (h : Brd r c) (hs : s < r * c) (hn : noneB (tbl r c) (r * c) false = true) : ∀ q, ¬ Compl c s false s (allBut (r * c) s) q := by
  unfold noneB at hn
  have := List.all_eq_true.1 hn s (List.mem_range.2 hs)
  exact none_of h hs (by simpa using this)

theorem tour_no {r c s : Nat} (h : Brd r c) (hs : s < r * c) (hb : hasTr r c = false) : ∀ q, ¬ Compl c s false s (allBut (r * c) s) q := by
  refine noneB_at h hs ?_
  have h0 : noTour.contains (r, c) = true := by unfold hasTr at hb; simpa using hb
  have h0' : (r, c) ∈ noTour := by simpa using h0
  by_cases hm : (r, c) ∈ [(3, 5), (5, 3), (3, 6), (6, 3), (4, 4), (3, 8), (8, 3)]
  · have h5 : ¬ ((r, c) = (3, 8)) ∧ ¬ ((r, c) = (8, 3)) := by
      refine ⟨fun e => ?_, fun e => ?_⟩ <;> rw [e] at h0 <;> exact absurd h0 (by decide)
    simp only [List.mem_cons, Prod.mk.injEq, List.not_mem_nil, or_false] at hm h5
    rcases hm with ⟨rfl, rfl⟩ | ⟨rfl, rfl⟩ | ⟨rfl, rfl⟩ | ⟨rfl, rfl⟩ | ⟨rfl, rfl⟩ | ⟨rfl, rfl⟩ | ⟨rfl, rfl⟩
    · exact no_3_5
    · exact no_5_3
    · exact no_3_6
    · exact no_6_3
    · exact no_4_4
    · exact absurd ⟨rfl, rfl⟩ h5.1
    · exact absurd ⟨rfl, rfl⟩ h5.2
  · exact List.all_eq_true.1 no_small (r, c) (List.mem_filter.2 ⟨h0', by
      cases hcon : ([(3, 5), (5, 3), (3, 6), (6, 3), (4, 4), (3, 8), (8, 3)] : List (Nat × Nat)).contains (r, c) with
      | false => rfl
      | true => exact absurd (by simpa using hcon) hm⟩)

/-! the program -/
theorem Bv.call61 {pg : Pg} {r c s : Nat} {H : Heap} {BV T : TV} {closed : Bool} (hb : Bv r c H BV) (h : PFn pg 61 [.bp true (.agg (bM r c)), .i .i64 (s : Int), .b closed] T) : callRun pg (den pg) (.pu []) [.fn 61 [] [], BV, .i .i64 (s : Int), .b closed] H = some (T, H) := by
  unfold Bv at hb
  exact PFn.call h (args := [BV, .i .i64 (s : Int), .b closed]) (ks := []) (fs := []) (cs := []) (by simp [snapArgs, sn_i, sn_b, sn_nil, sn8_i, sn8_b, sn8_nil, sn7_i, sn7_b, sn_sl, sn8_sl, slB_some, sn_tup, sn_agg, sn8_agg, mapO, elems, hb])

theorem fn19 {pg : Pg} (hF : Free pg) {r c : Nat} (h : Brd r c) : ∃ L l, PFn pg 19 [.i .i64 (r : Int), .i .i64 (c : Int)] (.tup [L, .b (hasCl r c), .i .i64 0]) ∧ L = elI.lt false l ∧ (hasCl r c = true → tourB r c l = true ∧ endsB c l = true) ∧ (hasCl r c = false → l = []) ∧ l.length ≤ 36 := by
  have hn := h.n36
  have hpos : 1 ≤ r * c := Nat.mul_pos h.r1 h.c1
  obtain ⟨H1, h1, h2, h3, h4⟩ := body59n (pg := pg) hF h []
  simp only [List.length_nil] at h1 h2
  have c60 := (Bv.ref h2).call60 (pg := pg) hF h
  unfold tightV at c60
  have ln : dkc pg (den pg) (.ld 1 false) [.ref 0 2] H1 = some (.i .i64 ((r * c : Nat) : Int), H1) := by simp [dkc, dk, h2, part_n]
  have eqn : dkc pg (den pg) (.eqN 0 true) [.nilsl, .nilsl] H1 = some (.b false, H1) := rfl
  have nilres : hasCl r c = false → ((tightS r c).isSome = true ∨ r * c = 1 ∨ (tightS r c).isSome = false ∧ r * c ≠ 1 ∧ PFn pg 61 [.bp true (.agg (bM r c)), .i .i64 ((0 : Nat) : Int), .b true] .nilsl) → PFn pg 19 [.i .i64 (r : Int), .i .i64 (c : Int)] (.tup [.nilsl, .b false, .i .i64 0]) := by
    intro _ hcase
    refine .of2 (x := .ret) (e := [(4, .nilsl), (5, .b false), (6, .i .i64 0)]) (H' := H1) (hF.S _ _ (by decide)) (d := d19) (by rw [hF.F]; rfl) rfl ?_ (.inl rfl) rfl (by simp) (by simp [sn_i, sn_b, sn_nil, sn8_i, sn8_b, sn8_nil, sn7_i, sn7_b, sn_sl, sn8_sl, slB_some, sn_tup, sn_agg, sn8_agg, mapO, elems])
    generalize (((tightS r c).getD 0 : Nat) : Int) = V at *
    rcases hcase with hcase | hcase | ⟨k1, k2, k3⟩
    · rw [hcase] at c60
      simp (disch := omega) [d19, c19, zipE, go_nil, go_last, go_past, go_pastR, go_blkN, go_blkR, go_blkE, go_skip, go_exit, go_ret, go_scope, go_seq, go_reg, go_regd, go_opdN, go_opd, go_opdG, grdd_b, grdd_u, stpd_some, find_some, go_block, go_cond, cnd_b, go_opsN, go_ops, go_opsG, grd_b, grd_u, stp_some, fin_some, up_some, cont_some, k_call, k_mv, k_pick, k_bin, k_eqB, k_eqA, k_not, k_neg, k_conv, k_alloc, k_boxA, k_boxI, k_boxB, k_boxN, k_boxBs, k_ldR, k_ldA, k_ldI, k_ldB, k_stA, k_stI, k_stB, ldC_some, stC_some, k_mkfn, k_slc, k_slcA, k_ixA, k_ixBs, k_ixSl, k_fadr, k_fld, k_ext, k_len, k_app, k_mn, k_mx, k_nilck, k_build, k_bsl1, k_bsl2, b_add, b_sub, b_mul, b_eql, b_neq, b_lss, b_leq, b_gtr, b_geq, Dn.setLast, Dn.getLast, evalO, mapO, Dn.get, putE, keepE_nil, keepE_cons, kp_some, kp_none, TV.one, TV.isAgg, Dn.part, k_boxR, negb, at0, at1, at2, at3, at4, dT, dF, wrapR_i64, Option.bind_some, Option.map_some, sh_fn, h1, c60]
    · rw [hcase] at ln
      cases hB : (tightS r c).isSome with
      | true =>
        rw [hB] at c60
        simp (disch := omega) [d19, c19, zipE, go_nil, go_last, go_past, go_pastR, go_blkN, go_blkR, go_blkE, go_skip, go_exit, go_ret, go_scope, go_seq, go_reg, go_regd, go_opdN, go_opd, go_opdG, grdd_b, grdd_u, stpd_some, find_some, go_block, go_cond, cnd_b, go_opsN, go_ops, go_opsG, grd_b, grd_u, stp_some, fin_some, up_some, cont_some, k_call, k_mv, k_pick, k_bin, k_eqB, k_eqA, k_not, k_neg, k_conv, k_alloc, k_boxA, k_boxI, k_boxB, k_boxN, k_boxBs, k_ldR, k_ldA, k_ldI, k_ldB, k_stA, k_stI, k_stB, ldC_some, stC_some, k_mkfn, k_slc, k_slcA, k_ixA, k_ixBs, k_ixSl, k_fadr, k_fld, k_ext, k_len, k_app, k_mn, k_mx, k_nilck, k_build, k_bsl1, k_bsl2, b_add, b_sub, b_mul, b_eql, b_neq, b_lss, b_leq, b_gtr, b_geq, Dn.setLast, Dn.getLast, evalO, mapO, Dn.get, putE, keepE_nil, keepE_cons, kp_some, kp_none, TV.one, TV.isAgg, Dn.part, k_boxR, negb, at0, at1, at2, at3, at4, dT, dF, wrapR_i64, Option.bind_some, Option.map_some, sh_fn, h1, c60]
      | false =>
        rw [hB] at c60
        have ln' : dkc pg (den pg) (.ld 1 false) [.ref 0 2] H1 = some (.i .i64 1, H1) := ln
        simp (disch := omega) [d19, c19, zipE, go_nil, go_last, go_past, go_pastR, go_blkN, go_blkR, go_blkE, go_skip, go_exit, go_ret, go_scope, go_seq, go_reg, go_regd, go_opdN, go_opd, go_opdG, grdd_b, grdd_u, stpd_some, find_some, go_block, go_cond, cnd_b, go_opsN, go_ops, go_opsG, grd_b, grd_u, stp_some, fin_some, up_some, cont_some, k_call, k_mv, k_pick, k_bin, k_eqB, k_eqA, k_not, k_neg, k_conv, k_alloc, k_boxA, k_boxI, k_boxB, k_boxN, k_boxBs, k_ldR, k_ldA, k_ldI, k_ldB, k_stA, k_stI, k_stB, ldC_some, stC_some, k_mkfn, k_slc, k_slcA, k_ixA, k_ixBs, k_ixSl, k_fadr, k_fld, k_ext, k_len, k_app, k_mn, k_mx, k_nilck, k_build, k_bsl1, k_bsl2, b_add, b_sub, b_mul, b_eql, b_neq, b_lss, b_leq, b_gtr, b_geq, Dn.setLast, Dn.getLast, evalO, mapO, Dn.get, putE, keepE_nil, keepE_cons, kp_some, kp_none, TV.one, TV.isAgg, Dn.part, k_boxR, negb, at0, at1, at2, at3, at4, dT, dF, wrapR_i64, Option.bind_some, Option.map_some, sh_fn, h1, c60, ln']
    · rw [k1] at c60
      have c61 := (Bv.ref h2).call61 k3
      simp only [Int.natCast_zero] at c61
      have hne : ¬ (((r * c : Nat) : Int) = 1) := by omega
      generalize ((r * c : Nat) : Int) = N at *
      simp (disch := omega) [d19, c19, zipE, go_nil, go_last, go_past, go_pastR, go_blkN, go_blkR, go_blkE, go_skip, go_exit, go_ret, go_scope, go_seq, go_reg, go_regd, go_opdN, go_opd, go_opdG, grdd_b, grdd_u, stpd_some, find_some, go_block, go_cond, cnd_b, go_opsN, go_ops, go_opsG, grd_b, grd_u, stp_some, fin_some, up_some, cont_some, k_call, k_mv, k_pick, k_bin, k_eqB, k_eqA, k_not, k_neg, k_conv, k_alloc, k_boxA, k_boxI, k_boxB, k_boxN, k_boxBs, k_ldR, k_ldA, k_ldI, k_ldB, k_stA, k_stI, k_stB, ldC_some, stC_some, k_mkfn, k_slc, k_slcA, k_ixA, k_ixBs, k_ixSl, k_fadr, k_fld, k_ext, k_len, k_app, k_mn, k_mx, k_nilck, k_build, k_bsl1, k_bsl2, b_add, b_sub, b_mul, b_eql, b_neq, b_lss, b_leq, b_gtr, b_geq, Dn.setLast, Dn.getLast, evalO, mapO, Dn.get, putE, keepE_nil, keepE_cons, kp_some, kp_none, TV.one, TV.isAgg, Dn.part, k_boxR, negb, at0, at1, at2, at3, at4, dT, dF, wrapR_i64, Option.bind_some, Option.map_some, sh_fn, h1, c60, ln, hne, c61, eqn]
  cases hts : (tightS r c).isSome with
  | true =>
    have hcl := cl_tight h hts
    exact ⟨.nilsl, [], by rw [hcl]; exact nilres hcl (.inl hts), rfl, (fun e => by rw [hcl] at e; cases e), fun _ => rfl, by simp⟩
  | false =>
    by_cases hone : r * c = 1
    · have hcl : hasCl r c = false := by
        have := h.ok (P := fun r c => !(r * c == 1) || !hasCl r c) (by kernel_rfl)
        simpa [hone] using this
      exact ⟨.nilsl, [], by rw [hcl]; exact nilres hcl (.inr (.inl hone)), rfl, (fun e => by rw [hcl] at e; cases e), fun _ => rfl, by simp⟩
    · rcases fn61 (pg := pg) hF (closed := true) h (first := 0) (by omega) with ⟨p61, hno⟩ | ⟨q, p61, hq⟩
      · have hcl : hasCl r c = false := by
          cases hc : hasCl r c with
          | false => rfl
          | true =>
            obtain ⟨q, hq⟩ := clos_yes hc
            exact (hno q hq).elim
        exact ⟨.nilsl, [], by rw [hcl]; exact nilres hcl (.inr (.inr ⟨hts, hone, p61⟩)), rfl, (fun e => by rw [hcl] at e; cases e), fun _ => rfl, by simp⟩
      · have hcl : hasCl r c = true := by
          cases hc : hasCl r c with
          | true => rfl
          | false => exact (clos_no h hts hc q hq).elim
        obtain ⟨t1, t2⟩ := compl_tour h (by omega) hq
        refine ⟨elI.lt false (nI (0 :: q)), nI (0 :: q), ?_, rfl, fun _ => ⟨t1, t2 rfl⟩, (fun e => by rw [hcl] at e; cases e), by rw [tourB_len t1]; exact hn⟩
        rw [hcl]
        have c61 := (Bv.ref h2).call61 p61
        have eqq : dkc pg (den pg) (.eqN 0 true) [elI.lt false (nI (0 :: q)), .nilsl] H1 = some (.b true, H1) := rfl
        have hs : mapO (snap .fin H1 8) [elI.lt false (nI (0 :: q)), .b true, .i .i64 0] = some [elI.lt false (nI (0 :: q)), .b true, .i .i64 0] := by
          have : snap .fin H1 8 (elI.lt false (nI (0 :: q))) = some (elI.lt false (nI (0 :: q))) := snap_intsF H1 6 _
          simp [mapO, this, sn_i, sn_b, sn_nil, sn8_i, sn8_b, sn8_nil, sn7_i, sn7_b, sn_sl, sn8_sl, slB_some, sn_tup, sn_agg, sn8_agg, mapO, elems]
        refine .of2 (x := .ret) (e := [(4, elI.lt false (nI (0 :: q))), (5, .b true), (6, .i .i64 0)]) (H' := H1) (hF.S _ _ (by decide)) (d := d19) (by rw [hF.F]; rfl) rfl ?_ (.inl rfl) rfl (by simp) hs
        rw [hts] at c60
        simp only [Int.natCast_zero] at c61
        have hne : ¬ (((r * c : Nat) : Int) = 1) := by omega
        generalize ((r * c : Nat) : Int) = N at *
        generalize (((tightS r c).getD 0 : Nat) : Int) = V at *
        generalize elI.lt false (nI (0 :: q)) = LL at *
        simp (disch := omega) [d19, c19, zipE, go_nil, go_last, go_past, go_pastR, go_blkN, go_blkR, go_blkE, go_skip, go_exit, go_ret, go_scope, go_seq, go_reg, go_regd, go_opdN, go_opd, go_opdG, grdd_b, grdd_u, stpd_some, find_some, go_block, go_cond, cnd_b, go_opsN, go_ops, go_opsG, grd_b, grd_u, stp_some, fin_some, up_some, cont_some, k_call, k_mv, k_pick, k_bin, k_eqB, k_eqA, k_not, k_neg, k_conv, k_alloc, k_boxA, k_boxI, k_boxB, k_boxN, k_boxBs, k_ldR, k_ldA, k_ldI, k_ldB, k_stA, k_stI, k_stB, ldC_some, stC_some, k_mkfn, k_slc, k_slcA, k_ixA, k_ixBs, k_ixSl, k_fadr, k_fld, k_ext, k_len, k_app, k_mn, k_mx, k_nilck, k_build, k_bsl1, k_bsl2, b_add, b_sub, b_mul, b_eql, b_neq, b_lss, b_leq, b_gtr, b_geq, Dn.setLast, Dn.getLast, evalO, mapO, Dn.get, putE, keepE_nil, keepE_cons, kp_some, kp_none, TV.one, TV.isAgg, Dn.part, k_boxR, negb, at0, at1, at2, at3, at4, dT, dF, wrapR_i64, Option.bind_some, Option.map_some, sh_fn, h1, c60, ln, hne, c61, eqq]

theorem l20_1_all {pg : Pg} (hF : Free pg) {r c : Nat} (h : Brd r c) {BV : TV} {H : Heap} (hb : Bv r c H BV) : ∀ (d k : Nat), k + d = r * c → (∀ s, s < k → ∀ q, ¬ Compl c s false s (allBut (r * c) s) q) →
    (∃ s q, s < r * c ∧ Compl c s false s (allBut (r * c) s) q ∧ den pg l20_1 [(7, BV), (23, .i .i64 ((r * c : Nat) : Int)), (24, .i .i64 (k : Int))] H = some ⟨.ret, [(4, elI.lt false (nI (s :: q))), (5, .b true), (6, .i .i64 0)], H⟩) ∨
    ((∀ s, s < r * c → ∀ q, ¬ Compl c s false s (allBut (r * c) s) q) ∧ ∃ e, den pg l20_1 [(7, BV), (23, .i .i64 ((r * c : Nat) : Int)), (24, .i .i64 (k : Int))] H = some ⟨.exit 0, e, H⟩)
  | 0, k, hd, hno => by
    obtain rfl : k = r * c := by omega
    refine .inr ⟨hno, _, by
      rw [l20_1, den_loop]
      simp (disch := omega) [b20_0, go_nil, go_last, go_past, go_pastR, go_blkN, go_blkR, go_blkE, go_skip, go_exit, go_ret, go_scope, go_seq, go_reg, go_regd, go_opdN, go_opd, go_opdG, grdd_b, grdd_u, stpd_some, find_some, go_block, go_cond, cnd_b, go_opsN, go_ops, go_opsG, grd_b, grd_u, stp_some, fin_some, up_some, cont_some, k_call, k_mv, k_pick, k_bin, k_eqB, k_eqA, k_not, k_neg, k_conv, k_alloc, k_boxA, k_boxI, k_boxB, k_boxN, k_boxBs, k_ldR, k_ldA, k_ldI, k_ldB, k_stA, k_stI, k_stB, ldC_some, stC_some, k_mkfn, k_slc, k_slcA, k_ixA, k_ixBs, k_ixSl, k_fadr, k_fld, k_ext, k_len, k_app, k_mn, k_mx, k_nilck, k_build, k_bsl1, k_bsl2, b_add, b_sub, b_mul, b_eql, b_neq, b_lss, b_leq, b_gtr, b_geq, Dn.setLast, Dn.getLast, evalO, mapO, Dn.get, putE, keepE_nil, keepE_cons, kp_some, kp_none, TV.one, TV.isAgg, Dn.part, k_boxR, negb, at0, at1, at2, at3, at4, dT, dF, wrapR_i64, Option.bind_some, Option.map_some]
      rfl⟩
  | d + 1, k, hd, hno => by
    have hn := h.n36
    have hlt : decide ((k : Int) < ((r * c : Nat) : Int)) = true := dT (by omega)
    rcases fn61 (pg := pg) hF (closed := false) h (first := k) (by omega) with ⟨p61, hn61⟩ | ⟨q, p61, hq⟩
    · have c61 := hb.call61 p61
      have eqn : dkc pg (den pg) (.eqN 0 true) [.nilsl, .nilsl] H = some (.b false, H) := rfl
      have wk : wrapR .i64 ((k : Int) + 1) = .i .i64 ((k + 1 : Nat) : Int) := by rw [← Int.natCast_succ]; exact wrapR_i64 (by omega)
      have step : den pg l20_1 [(7, BV), (23, .i .i64 ((r * c : Nat) : Int)), (24, .i .i64 (k : Int))] H = den pg l20_1 [(7, BV), (23, .i .i64 ((r * c : Nat) : Int)), (24, .i .i64 ((k + 1 : Nat) : Int))] H := by
        generalize ((k + 1 : Nat) : Int) = K1 at *
        generalize ((r * c : Nat) : Int) = N at *
        rw [l20_1, den_loop]
        simp (disch := omega) [l20_1, b20_0, go_nil, go_last, go_past, go_pastR, go_blkN, go_blkR, go_blkE, go_skip, go_exit, go_ret, go_scope, go_seq, go_reg, go_regd, go_opdN, go_opd, go_opdG, grdd_b, grdd_u, stpd_some, find_some, go_block, go_cond, cnd_b, go_opsN, go_ops, go_opsG, grd_b, grd_u, stp_some, fin_some, up_some, cont_some, k_call, k_mv, k_pick, k_bin, k_eqB, k_eqA, k_not, k_neg, k_conv, k_alloc, k_boxA, k_boxI, k_boxB, k_boxN, k_boxBs, k_ldR, k_ldA, k_ldI, k_ldB, k_stA, k_stI, k_stB, ldC_some, stC_some, k_mkfn, k_slc, k_slcA, k_ixA, k_ixBs, k_ixSl, k_fadr, k_fld, k_ext, k_len, k_app, k_mn, k_mx, k_nilck, k_build, k_bsl1, k_bsl2, b_add, b_sub, b_mul, b_eql, b_neq, b_lss, b_leq, b_gtr, b_geq, Dn.setLast, Dn.getLast, evalO, mapO, Dn.get, putE, keepE_nil, keepE_cons, kp_some, kp_none, TV.one, TV.isAgg, Dn.part, k_boxR, negb, at0, at1, at2, at3, at4, dT, dF, wrapR_i64, Option.bind_some, Option.map_some, hlt, c61, eqn, wk]
      rw [step]
      refine l20_1_all hF h hb d (k + 1) (by omega) fun s hs q => ?_
      by_cases hsk : s = k
      · subst hsk; exact hn61 q
      · exact hno s (by omega) q
    · have c61 := hb.call61 p61
      have eqn : dkc pg (den pg) (.eqN 0 true) [elI.lt false (nI (k :: q)), .nilsl] H = some (.b true, H) := rfl
      refine .inl ⟨k, q, by omega, hq, ?_⟩
      generalize elI.lt false (nI (k :: q)) = LL at *
      generalize ((r * c : Nat) : Int) = N at *
      rw [l20_1, den_loop]
      simp (disch := omega) [b20_0, go_nil, go_last, go_past, go_pastR, go_blkN, go_blkR, go_blkE, go_skip, go_exit, go_ret, go_scope, go_seq, go_reg, go_regd, go_opdN, go_opd, go_opdG, grdd_b, grdd_u, stpd_some, find_some, go_block, go_cond, cnd_b, go_opsN, go_ops, go_opsG, grd_b, grd_u, stp_some, fin_some, up_some, cont_some, k_call, k_mv, k_pick, k_bin, k_eqB, k_eqA, k_not, k_neg, k_conv, k_alloc, k_boxA, k_boxI, k_boxB, k_boxN, k_boxBs, k_ldR, k_ldA, k_ldI, k_ldB, k_stA, k_stI, k_stB, ldC_some, stC_some, k_mkfn, k_slc, k_slcA, k_ixA, k_ixBs, k_ixSl, k_fadr, k_fld, k_ext, k_len, k_app, k_mn, k_mx, k_nilck, k_build, k_bsl1, k_bsl2, b_add, b_sub, b_mul, b_eql, b_neq, b_lss, b_leq, b_gtr, b_geq, Dn.setLast, Dn.getLast, evalO, mapO, Dn.get, putE, keepE_nil, keepE_cons, kp_some, kp_none, TV.one, TV.isAgg, Dn.part, k_boxR, negb, at0, at1, at2, at3, at4, dT, dF, wrapR_i64, Option.bind_some, Option.map_some, hlt, c61, eqn]

theorem fn20 {pg : Pg} (hF : Free pg) {r c : Nat} (h : Brd r c) : ∃ L l, PFn pg 20 [.i .i64 (r : Int), .i .i64 (c : Int)] (.tup [L, .b (hasTr r c), .i .i64 0]) ∧ L = elI.lt false l ∧ (hasTr r c = true → tourB r c l = true) ∧ (hasTr r c = false → l = []) ∧ l.length ≤ 36 := by
  have hn := h.n36
  obtain ⟨H1, h1, h2, h3, h4⟩ := body59n (pg := pg) hF h []
  simp only [List.length_nil] at h1 h2
  have ln : dkc pg (den pg) (.ld 1 false) [.ref 0 2] H1 = some (.i .i64 ((r * c : Nat) : Int), H1) := by simp [dkc, dk, h2, part_n]
  rcases l20_1_all (pg := pg) hF h (Bv.ref h2) (r * c) 0 (by omega) (fun s hs => by omega) with ⟨s, q, hs, hq, hr⟩ | ⟨hno, e, hr⟩
  · have hcl : hasTr r c = true := by
      cases hc : hasTr r c with
      | true => rfl
      | false => exact (tour_no h hs hc q hq).elim
    obtain ⟨t1, _⟩ := compl_tour h hs hq
    refine ⟨elI.lt false (nI (s :: q)), nI (s :: q), ?_, rfl, fun _ => t1, (fun e => by rw [hcl] at e; cases e), by rw [tourB_len t1]; exact hn⟩
    rw [hcl]
    simp only [Int.natCast_zero] at hr
    have hs' : mapO (snap .fin H1 8) [elI.lt false (nI (s :: q)), .b true, .i .i64 0] = some [elI.lt false (nI (s :: q)), .b true, .i .i64 0] := by
      have : snap .fin H1 8 (elI.lt false (nI (s :: q))) = some (elI.lt false (nI (s :: q))) := snap_intsF H1 6 _
      simp [mapO, this, sn_i, sn_b, sn_nil, sn8_i, sn8_b, sn8_nil, sn7_i, sn7_b, sn_sl, sn8_sl, slB_some, sn_tup, sn_agg, sn8_agg, mapO, elems]
    refine .of2 (x := .ret) (e := [(4, elI.lt false (nI (s :: q))), (5, .b true), (6, .i .i64 0)]) (H' := H1) (hF.S _ _ (by decide)) (d := d20) (by rw [hF.F]; rfl) rfl ?_ (.inl rfl) rfl (by simp) hs'
    generalize ((r * c : Nat) : Int) = N at *
    generalize elI.lt false (nI (s :: q)) = LL at *
    simp (disch := omega) [d20, c20, zipE, go_nil, go_last, go_past, go_pastR, go_blkN, go_blkR, go_blkE, go_skip, go_exit, go_ret, go_scope, go_seq, go_reg, go_regd, go_opdN, go_opd, go_opdG, grdd_b, grdd_u, stpd_some, find_some, go_block, go_cond, cnd_b, go_opsN, go_ops, go_opsG, grd_b, grd_u, stp_some, fin_some, up_some, cont_some, k_call, k_mv, k_pick, k_bin, k_eqB, k_eqA, k_not, k_neg, k_conv, k_alloc, k_boxA, k_boxI, k_boxB, k_boxN, k_boxBs, k_ldR, k_ldA, k_ldI, k_ldB, k_stA, k_stI, k_stB, ldC_some, stC_some, k_mkfn, k_slc, k_slcA, k_ixA, k_ixBs, k_ixSl, k_fadr, k_fld, k_ext, k_len, k_app, k_mn, k_mx, k_nilck, k_build, k_bsl1, k_bsl2, b_add, b_sub, b_mul, b_eql, b_neq, b_lss, b_leq, b_gtr, b_geq, Dn.setLast, Dn.getLast, evalO, mapO, Dn.get, putE, keepE_nil, keepE_cons, kp_some, kp_none, TV.one, TV.isAgg, Dn.part, k_boxR, negb, at0, at1, at2, at3, at4, dT, dF, wrapR_i64, Option.bind_some, Option.map_some, sh_fn, h1, ln, go_denK (c := l20_1) rfl, hr]
  · have hcl : hasTr r c = false := by
      cases hc : hasTr r c with
      | false => rfl
      | true =>
        obtain ⟨s, hs, q, hq⟩ := tour_yes h hc
        exact (hno s hs q hq).elim
    refine ⟨.nilsl, [], ?_, rfl, (fun e => by rw [hcl] at e; cases e), fun _ => rfl, by simp⟩
    rw [hcl]
    simp only [Int.natCast_zero] at hr
    refine .of2 (x := .ret) (e := [(4, .nilsl), (5, .b false), (6, .i .i64 0)]) (H' := H1) (hF.S _ _ (by decide)) (d := d20) (by rw [hF.F]; rfl) rfl ?_ (.inl rfl) rfl (by simp) (by simp [sn_i, sn_b, sn_nil, sn8_i, sn8_b, sn8_nil, sn7_i, sn7_b, sn_sl, sn8_sl, slB_some, sn_tup, sn_agg, sn8_agg, mapO, elems])
    generalize ((r * c : Nat) : Int) = N at *
    simp (disch := omega) [d20, c20, zipE, go_nil, go_last, go_past, go_pastR, go_blkN, go_blkR, go_blkE, go_skip, go_exit, go_ret, go_scope, go_seq, go_reg, go_regd, go_opdN, go_opd, go_opdG, grdd_b, grdd_u, stpd_some, find_some, go_block, go_cond, cnd_b, go_opsN, go_ops, go_opsG, grd_b, grd_u, stp_some, fin_some, up_some, cont_some, k_call, k_mv, k_pick, k_bin, k_eqB, k_eqA, k_not, k_neg, k_conv, k_alloc, k_boxA, k_boxI, k_boxB, k_boxN, k_boxBs, k_ldR, k_ldA, k_ldI, k_ldB, k_stA, k_stI, k_stB, ldC_some, stC_some, k_mkfn, k_slc, k_slcA, k_ixA, k_ixBs, k_ixSl, k_fadr, k_fld, k_ext, k_len, k_app, k_mn, k_mx, k_nilck, k_build, k_bsl1, k_bsl2, b_add, b_sub, b_mul, b_eql, b_neq, b_lss, b_leq, b_gtr, b_geq, Dn.setLast, Dn.getLast, evalO, mapO, Dn.get, putE, keepE_nil, keepE_cons, kp_some, kp_none, TV.one, TV.isAgg, Dn.part, k_boxR, negb, at0, at1, at2, at3, at4, dT, dF, wrapR_i64, Option.bind_some, Option.map_some, sh_fn, h1, ln, go_denK (c := l20_1) rfl, hr]

end Go.Proofs.Tryd.Dn

/-
  Knight: the reference's word on closed tours and tours: all boards.
-/

namespace Go.Proofs.Tryd.Dn
open Go.Dn

end Go.Proofs.Tryd.Dn

/-
  Knight: the law of tours found, run.
-/

namespace Go.Proofs.Tryd.Dn
open Go.Dn

end Go.Proofs.Tryd.Dn

/-
  Knight: Schwenk's law, run.
-/

namespace Go.Proofs.Tryd.Dn
open Go.Dn

theorem near_colR {r c s t : Nat} (h : Brd r c) (hs : s < r * c) (ht : t < r * c) (hst : near c s t = true) : colR c s ≠ colR c t := by
  have h1 := h.ok (P := fun r c => (List.range (r * c)).all fun s => (List.range (r * c)).all fun t => !near c s t || decide (colR c s ≠ colR c t)) (by kernel_rfl)
  have h2 := List.all_eq_true.1 (List.all_eq_true.1 h1 s (List.mem_range.2 hs)) t (List.mem_range.2 ht)
  rw [hst] at h2
  exact of_decide_eq_true h2

theorem tourB_near {r c : Nat} {l : List Int} (h : tourB r c l = true) {i : Nat} (hi : i + 1 < l.length) {s t : Nat} (hs : l.getD i 0 = (s : Int)) (ht : l.getD (i + 1) 0 = (t : Int)) : near c s t = true := by
  unfold tourB at h
  rw [Bool.and_eq_true, Bool.and_eq_true] at h
  have h1 := h.1.2
  unfold isWay at h1
  rw [Bool.and_eq_true] at h1
  have h2 := List.all_eq_true.1 h1.1 (i + 1) (List.mem_range.2 hi)
  unfold wayAt at h2
  rw [Bool.and_eq_true, ht, show i + 1 - 1 = i by omega, hs, Int.toNat_natCast, Int.toNat_natCast] at h2
  simpa using h2.2

theorem l13_1_all {pg : Pg} (hF : Free pg) {r c : Nat} (h : Brd r c) {L : TV} {l : List Int} (hL : SV L l) (ht : tourB r c l = true) {H : Heap} : ∀ (d k : Nat), k + d = l.length → 1 ≤ k →
    ∃ e, den pg l13_1 [(1, .i .i64 (c : Int)), (14, L), (24, .i .i64 (k : Int))] H = some ⟨.exit 0, e, H⟩
  | 0, k, hd, hk => by
    have hlen := fun K => (hL.view K).lenK K
    exact ⟨_, by
      rw [l13_1, den_loop]
      simp (disch := omega) [b13_0, go_nil, go_last, go_past, go_pastR, go_blkN, go_blkR, go_blkE, go_skip, go_exit, go_ret, go_scope, go_seq, go_reg, go_regd, go_opdN, go_opd, go_opdG, grdd_b, grdd_u, stpd_some, find_some, go_block, go_cond, cnd_b, go_opsN, go_ops, go_opsG, grd_b, grd_u, stp_some, fin_some, up_some, cont_some, k_call, k_mv, k_pick, k_bin, k_eqB, k_eqA, k_not, k_neg, k_conv, k_alloc, k_boxA, k_boxI, k_boxB, k_boxN, k_boxBs, k_ldR, k_ldA, k_ldI, k_ldB, k_stA, k_stI, k_stB, ldC_some, stC_some, k_mkfn, k_slc, k_slcA, k_ixA, k_ixBs, k_ixSl, k_fadr, k_fld, k_ext, k_len, k_app, k_mn, k_mx, k_nilck, k_build, k_bsl1, k_bsl2, b_add, b_sub, b_mul, b_eql, b_neq, b_lss, b_leq, b_gtr, b_geq, Dn.setLast, Dn.getLast, evalO, mapO, Dn.get, putE, keepE_nil, keepE_cons, kp_some, kp_none, TV.one, TV.isAgg, Dn.part, k_boxR, negb, at0, at1, at2, at3, at4, dT, dF, wrapR_i64, Option.bind_some, Option.map_some, hlen]
      rfl⟩
  | d + 1, k, hd, hk => by
    have hn := h.n36
    have hlen := fun K => (hL.view K).lenK K
    have hll := tourB_len ht
    obtain ⟨j, rfl⟩ : ∃ j, k = j + 1 := ⟨k - 1, by omega⟩
    obtain ⟨s, s1, s2, s3⟩ := tourB_at ht (i := j) (by omega)
    obtain ⟨t, t1, t2, t3⟩ := tourB_at ht (i := j + 1) (by omega)
    have hnr := tourB_near ht (by omega) s3 t3
    have hcol := near_colR h s2 t2 hnr
    obtain ⟨p, p1, p2⟩ := ixI (pg := pg) (R := den pg) (hL.view H) s1
    obtain ⟨q, q1, q2⟩ := ixI (pg := pg) (R := den pg) (hL.view H) t1
    have ca := PFn.at (fn44 (pg := pg) hF h.c1 (s := s) (by omega)) (fun H => sa_I (sa_I sa_0)) H
    have cb := PFn.at (fn44 (pg := pg) hF h.c1 (s := t) (by omega)) (fun H => sa_I (sa_I sa_0)) H
    have wj : wrapR .i64 (((j + 1 : Nat) : Int) - 1) = .i .i64 (j : Int) := by rw [show ((j + 1 : Nat) : Int) - 1 = (j : Int) by omega]; exact wrapR_i64 (by omega)
    have wk : wrapR .i64 (((j + 1 : Nat) : Int) + 1) = .i .i64 ((j + 1 + 1 : Nat) : Int) := by rw [← Int.natCast_succ]; exact wrapR_i64 (by omega)
    have hne : ¬ ((colR c t : Int) = (colR c s : Int)) := by omega
    have hlt : decide (((j + 1 : Nat) : Int) < (l.length : Int)) = true := dT (by omega)
    obtain ⟨e, k1⟩ := l13_1_all hF h hL ht (H := H) d (j + 1 + 1) (by omega) (by omega)
    refine ⟨e, Eq.trans ?_ k1⟩
    generalize ((j + 1 + 1 : Nat) : Int) = J2 at *
    generalize ((j + 1 : Nat) : Int) = J1 at *
    generalize (colR c t : Int) = CT at *
    generalize (colR c s : Int) = CS at *
    rw [l13_1, den_loop]
    simp (disch := omega) [l13_1, b13_0, go_nil, go_last, go_past, go_pastR, go_blkN, go_blkR, go_blkE, go_skip, go_exit, go_ret, go_scope, go_seq, go_reg, go_regd, go_opdN, go_opd, go_opdG, grdd_b, grdd_u, stpd_some, find_some, go_block, go_cond, cnd_b, go_opsN, go_ops, go_opsG, grd_b, grd_u, stp_some, fin_some, up_some, cont_some, k_call, k_mv, k_pick, k_bin, k_eqB, k_eqA, k_not, k_neg, k_conv, k_alloc, k_boxA, k_boxI, k_boxB, k_boxN, k_boxBs, k_ldR, k_ldA, k_ldI, k_ldB, k_stA, k_stI, k_stB, ldC_some, stC_some, k_mkfn, k_slc, k_slcA, k_ixA, k_ixBs, k_ixSl, k_fadr, k_fld, k_ext, k_len, k_app, k_mn, k_mx, k_nilck, k_build, k_bsl1, k_bsl2, b_add, b_sub, b_mul, b_eql, b_neq, b_lss, b_leq, b_gtr, b_geq, Dn.setLast, Dn.getLast, evalO, mapO, Dn.get, putE, keepE_nil, keepE_cons, kp_some, kp_none, TV.one, TV.isAgg, Dn.part, k_boxR, negb, at0, at1, at2, at3, at4, dT, dF, wrapR_i64, Option.bind_some, Option.map_some, hlen, hlt, p1, p2, q1, q2, ca, cb, wj, wk, hne]

theorem Brd.swap {r c : Nat} (h : Brd r c) : Brd c r := ⟨h.c1, h.r1, h.c8, h.r8, by rw [Nat.mul_comm]; exact h.n36⟩

set_option maxRecDepth 100000 in
theorem run13 {pg : Pg} (hF : Free pg) (h25 : PFn pg 25 [] (.b true)) (x y : Int) : ∃ H, bodyRun pg (den pg) 13 [.i .i64 x, .i .i64 y] [] = some (.b true, H) := by
  obtain ⟨r, c, h, c18⟩ := call18 hF x y
  have hn := h.n36
  obtain ⟨hcast, wn⟩ := rc_facts h
  have c25 := fun H => PFn.call h25 (args := []) (ks := []) (fs := []) (cs := []) (H := H) (by simp [snapArgs])
  obtain ⟨L1, l1, p19, e1, t1, n1, b1⟩ := fn19 (pg := pg) hF h
  obtain ⟨L2, l2, p20, e2, t2, n2, b2⟩ := fn20 (pg := pg) hF h
  obtain ⟨L3, l3, p19', e3, _, _, _⟩ := fn19 (pg := pg) hF h.swap
  obtain ⟨L4, l4, p20', e4, _, _, _⟩ := fn20 (pg := pg) hF h.swap
  have s1 : hasCl c r = hasCl r c := by have := h.ok (P := fun r c => hasCl c r == hasCl r c) (by kernel_rfl); simpa using this
  have s2 : hasTr c r = hasTr r c := by have := h.ok (P := fun r c => hasTr c r == hasTr r c) (by kernel_rfl); simpa using this
  have s3 : hasCl r c = true → hasTr r c = true := by
    have := h.ok (P := fun r c => !hasCl r c || hasTr r c) (by kernel_rfl)
    intro hc
    rw [hc] at this
    simpa using this
  rw [s1] at p19'
  rw [s2] at p20'
  have c19 := fun H => PFn.at p19 (fun H => sa_I (sa_I sa_0)) H
  have c20 := fun H => PFn.at p20 (fun H => sa_I (sa_I sa_0)) H
  have c19' := fun H => PFn.at p19' (fun H => sa_I (sa_I sa_0)) H
  have c20' := fun H => PFn.at p20' (fun H => sa_I (sa_I sa_0)) H
  have c35 := fun H => PFn.at (fn35 (pg := pg) hF h) (fun H => sa_I (sa_I sa_0)) H
  have hs1 := fun H => snap_ints false H 7 l1
  have hs2 := fun H => snap_ints false H 7 l2
  have c51a := fun H => PFn.call (fn51 hF h (SV.lt true l1) (by omega)) (args := [.i .i64 (r : Int), .i .i64 (c : Int), elI.lt false l1]) (ks := []) (fs := []) (cs := []) (H := H) (by simp [snapArgs, sn_i, hs1])
  have c51b := fun H => PFn.call (fn51 hF h (SV.lt true l2) (by omega)) (args := [.i .i64 (r : Int), .i .i64 (c : Int), elI.lt false l2]) (ks := []) (fs := []) (cs := []) (H := H) (by simp [snapArgs, sn_i, hs2])
  have hlen2 := fun K => ((SV.lt false l2).view K).lenK K
  have hSV2 : SV L2 l2 := by rw [e2]; exact SV.lt false l2
  rw [← e1] at c51a
  rw [← e2] at c51b hlen2
  generalize (((tightS r c).getD 0 : Nat) : Int) = TV0 at *
  have hct : hasCl r c = true → (tightS r c).isSome = false := fun hc => by
    cases ht : (tightS r c).isSome with
    | false => rfl
    | true => rw [cl_tight h ht] at hc; cases hc
  refine ⟨[], body_of (x := .ret) (e := [(4, .b true)]) (d := d13) (by rw [hF.F]; rfl) rfl ?_ (.inl rfl) rfl⟩
  cases ht : hasTr r c with
  | false =>
    have hc : hasCl r c = false := by
      cases hc : hasCl r c with
      | false => rfl
      | true => rw [s3 hc] at ht; cases ht
    rw [hc] at c19 c19'
    rw [ht] at c20 c20'
    generalize (tightS r c).isSome = B0 at *
    simp (disch := omega) [d13, c13, zipE, go_nil, go_last, go_past, go_pastR, go_blkN, go_blkR, go_blkE, go_skip, go_exit, go_ret, go_scope, go_seq, go_reg, go_regd, go_opdN, go_opd, go_opdG, grdd_b, grdd_u, stpd_some, find_some, go_block, go_cond, cnd_b, go_opsN, go_ops, go_opsG, grd_b, grd_u, stp_some, fin_some, up_some, cont_some, k_call, k_mv, k_pick, k_bin, k_eqB, k_eqA, k_not, k_neg, k_conv, k_alloc, k_boxA, k_boxI, k_boxB, k_boxN, k_boxBs, k_ldR, k_ldA, k_ldI, k_ldB, k_stA, k_stI, k_stB, ldC_some, stC_some, k_mkfn, k_slc, k_slcA, k_ixA, k_ixBs, k_ixSl, k_fadr, k_fld, k_ext, k_len, k_app, k_mn, k_mx, k_nilck, k_build, k_bsl1, k_bsl2, b_add, b_sub, b_mul, b_eql, b_neq, b_lss, b_leq, b_gtr, b_geq, Dn.setLast, Dn.getLast, evalO, mapO, Dn.get, putE, keepE_nil, keepE_cons, kp_some, kp_none, TV.one, TV.isAgg, Dn.part, k_boxR, negb, at0, at1, at2, at3, at4, dT, dF, wrapR_i64, Option.bind_some, Option.map_some, c18, c19, c19', c35, c20, c20', c25]
  | true =>
    rw [ht] at c20 c20'
    rw [t2 ht] at c51b
    simp only [if_true] at c51b
    obtain ⟨e, k1⟩ := l13_1_all (pg := pg) hF h hSV2 (t2 ht) (H := []) (l2.length - 1) 1 (by have := tourB_len (t2 ht); have := Nat.mul_pos h.r1 h.c1; omega) (by omega)
    simp only [Int.natCast_one] at k1
    have hlne : ((l2.length : Int) != (r : Int) * c) = false := bneF (by rw [← hcast, tourB_len (t2 ht)])
    generalize endsB c l2 = E2 at *
    cases hc : hasCl r c with
    | false =>
      rw [hc] at c19 c19'
      generalize (tightS r c).isSome = B0 at *
      simp (disch := omega) [d13, c13, zipE, go_nil, go_last, go_past, go_pastR, go_blkN, go_blkR, go_blkE, go_skip, go_exit, go_ret, go_scope, go_seq, go_reg, go_regd, go_opdN, go_opd, go_opdG, grdd_b, grdd_u, stpd_some, find_some, go_block, go_cond, cnd_b, go_opsN, go_ops, go_opsG, grd_b, grd_u, stp_some, fin_some, up_some, cont_some, k_call, k_mv, k_pick, k_bin, k_eqB, k_eqA, k_not, k_neg, k_conv, k_alloc, k_boxA, k_boxI, k_boxB, k_boxN, k_boxBs, k_ldR, k_ldA, k_ldI, k_ldB, k_stA, k_stI, k_stB, ldC_some, stC_some, k_mkfn, k_slc, k_slcA, k_ixA, k_ixBs, k_ixSl, k_fadr, k_fld, k_ext, k_len, k_app, k_mn, k_mx, k_nilck, k_build, k_bsl1, k_bsl2, b_add, b_sub, b_mul, b_eql, b_neq, b_lss, b_leq, b_gtr, b_geq, Dn.setLast, Dn.getLast, evalO, mapO, Dn.get, putE, keepE_nil, keepE_cons, kp_some, kp_none, TV.one, TV.isAgg, Dn.part, k_boxR, negb, at0, at1, at2, at3, at4, dT, dF, wrapR_i64, Option.bind_some, Option.map_some, c18, c19, c19', c35, c20, c20', c51b, hlen2, wn, hlne, go_denK (c := l13_1) rfl, k1, c25]
    | true =>
      rw [hc] at c19 c19'
      rw [(t1 hc).1, (t1 hc).2] at c51a
      simp only [if_true] at c51a
      rw [hct hc] at c35
      simp (disch := omega) [d13, c13, zipE, go_nil, go_last, go_past, go_pastR, go_blkN, go_blkR, go_blkE, go_skip, go_exit, go_ret, go_scope, go_seq, go_reg, go_regd, go_opdN, go_opd, go_opdG, grdd_b, grdd_u, stpd_some, find_some, go_block, go_cond, cnd_b, go_opsN, go_ops, go_opsG, grd_b, grd_u, stp_some, fin_some, up_some, cont_some, k_call, k_mv, k_pick, k_bin, k_eqB, k_eqA, k_not, k_neg, k_conv, k_alloc, k_boxA, k_boxI, k_boxB, k_boxN, k_boxBs, k_ldR, k_ldA, k_ldI, k_ldB, k_stA, k_stI, k_stB, ldC_some, stC_some, k_mkfn, k_slc, k_slcA, k_ixA, k_ixBs, k_ixSl, k_fadr, k_fld, k_ext, k_len, k_app, k_mn, k_mx, k_nilck, k_build, k_bsl1, k_bsl2, b_add, b_sub, b_mul, b_eql, b_neq, b_lss, b_leq, b_gtr, b_geq, Dn.setLast, Dn.getLast, evalO, mapO, Dn.get, putE, keepE_nil, keepE_cons, kp_some, kp_none, TV.one, TV.isAgg, Dn.part, k_boxR, negb, at0, at1, at2, at3, at4, dT, dF, wrapR_i64, Option.bind_some, Option.map_some, c18, c19, c19', c35, c20, c20', c51a, c51b, hlen2, wn, hlne, go_denK (c := l13_1) rfl, k1, c25]

end Go.Proofs.Tryd.Dn

