/-
  Knight: closed tours and tours, found or not, in the program.
-/
import Derived.Test.YtdjbpmgbaggfbaaDoorKft
import Derived.Test.YtdjbpmgbaggfbaaDoorKfp
import Derived.Test.YtdjbpmgbaggfbaaDoorKe
import Derived.Test.YtdjbpmgbaggfbaaDoorKf9
set_option linter.unusedSimpArgs false
set_option linter.unusedVariables false

namespace Go.Proofs.Tryd.Dn
open Go.Dn

def hasCl (r c : Nat) : Bool := witC.any fun w => w.1 == r && w.2.1 == c
theorem clos_yes {r c : Nat} (h : hasCl r c = true) : ∃ q, Compl c 0 true 0 (allBut (r * c) 0) q := by
  unfold hasCl at h
  obtain ⟨w, hw, h1⟩ := List.any_eq_true.1 h
  rw [Bool.and_eq_true, beq_iff_eq, beq_iff_eq] at h1
  obtain ⟨rfl, rfl⟩ := h1
  have h2 := List.all_eq_true.1 witC_ok w hw
  have h3 : (witC.all fun w => w.2.2.1 == 0) = true := by kernel_rfl
  have h4 := List.all_eq_true.1 h3 w hw
  rw [beq_iff_eq] at h4
  rw [h4] at h2
  exact ⟨_, complB_is _ _ _ h2⟩

theorem on_board {r c : Nat} (h : Brd r c) : (r, c) ∈ boards := by
  have := h.ok (P := fun r c => boards.contains (r, c)) (by kernel_rfl)
  simpa using this

theorem tight_off {r c : Nat} (h : Brd r c) : (tightS r c).isSome = !noTight.contains (r, c) := by
  have := List.all_eq_true.1 tight_some (r, c) (on_board h)
  exact beq_iff_eq.1 this

theorem cl_tight {r c : Nat} (h : Brd r c) (ht : (tightS r c).isSome = true) : hasCl r c = false := by
  have h1 := h.ok (P := fun r c => !hasCl r c || noTight.contains (r, c)) (by kernel_rfl)
  rw [tight_off h] at ht
  cases hc : hasCl r c with
  | false => rfl
  | true =>
    rw [hc] at h1
    have h2 : noTight.contains (r, c) = true := h1
    rw [h2] at ht
    cases ht

theorem clos_no {r c : Nat} (h : Brd r c) (ht : (tightS r c).isSome = false) (hc : hasCl r c = false) : ∀ q, ¬ Compl c 0 true 0 (allBut (r * c) 0) q := by
  have h1 := h.ok (P := fun r c => hasCl r c || !noTight.contains (r, c) || [(1, 2), (2, 1), (3, 8), (8, 3)].contains (r, c)) (by kernel_rfl)
  rw [tight_off h] at ht
  have h2 : noTight.contains (r, c) = true := by simpa using ht
  rw [hc, h2] at h1
  have h3 : (r, c) ∈ [(1, 2), (2, 1), (3, 8), (8, 3)] := by
    have h4 : ([(1, 2), (2, 1), (3, 8), (8, 3)] : List (Nat × Nat)).contains (r, c) = true := h1
    simpa using h4
  simp only [List.mem_cons, Prod.mk.injEq, List.not_mem_nil, or_false] at h3
  rcases h3 with ⟨rfl, rfl⟩ | ⟨rfl, rfl⟩ | ⟨rfl, rfl⟩ | ⟨rfl, rfl⟩
  · exact none_of h (by decide) noC_1_2
  · exact none_of h (by decide) noC_2_1
  · exact none_of h (by decide) noC_3_8
  · exact none_of h (by decide) noC_8_3

/-! the program -/
theorem Bv.call61 {pg : Pg} {r c s : Nat} {H : Heap} {BV T : TV} {closed : Bool} (hb : Bv r c H BV) (h : PFn pg 61 [.bp true (.agg (bM r c)), .i .i64 (s : Int), .b closed] T) : callRun pg (den pg) (.pu []) [.fn 61 [] [], BV, .i .i64 (s : Int), .b closed] H = some (T, H) := by
  unfold Bv at hb
  exact PFn.call h (args := [BV, .i .i64 (s : Int), .b closed]) (ks := []) (fs := []) (cs := []) (by simp [snapArgs, sn_i, sn_b, sn_nil, sn8_i, sn8_b, sn8_nil, sn7_i, sn7_b, sn_sl, sn8_sl, slB_some, sn_tup, sn_agg, sn8_agg, mapO, elems, hb])

theorem fn19 {pg : Pg} (hF : Free pg) {r c : Nat} (h : Brd r c) : ∃ L l, PFn pg 19 [.i .i64 (r : Int), .i .i64 (c : Int)] (.tup [L, .b (hasCl r c), .i .i64 0]) ∧ L = elI.lt false l ∧ (hasCl r c = true → tourB r c l = true ∧ endsB c l = true) ∧ (hasCl r c = false → l = []) ∧ l.length ≤ 36 := by
  have hn := h.n36
  have hpos : 1 ≤ r * c := Nat.mul_pos h.r1 h.c1
  obtain ⟨H1, h1, h2, h3, h4⟩ := body59n (pg := pg) hF h []
  simp only [List.length_nil] at h1 h2
  have c60 := (Bv.ref h2).call60 (pg := pg) hF h
  unfold tightV at c60
  have ln : dkc pg (den pg) (.ld 1 false) [.ref 0 2] H1 = some (.i .i64 ((r * c : Nat) : Int), H1) := by simp [dkc, dk, h2, part_n]
  have eqn : dkc pg (den pg) (.eqN 0 true) [.nilsl, .nilsl] H1 = some (.b false, H1) := rfl
  have nilres : hasCl r c = false → ((tightS r c).isSome = true ∨ r * c = 1 ∨ (tightS r c).isSome = false ∧ r * c ≠ 1 ∧ PFn pg 61 [.bp true (.agg (bM r c)), .i .i64 ((0 : Nat) : Int), .b true] .nilsl) → PFn pg 19 [.i .i64 (r : Int), .i .i64 (c : Int)] (.tup [.nilsl, .b false, .i .i64 0]) := by
    intro _ hcase
    refine .of2 (x := .ret) (e := [(4, .nilsl), (5, .b false), (6, .i .i64 0)]) (H' := H1) (hF.S _ _ (by decide)) (d := d19) (by rw [hF.F]; rfl) rfl ?_ (.inl rfl) rfl (by simp) (by simp [sn_i, sn_b, sn_nil, sn8_i, sn8_b, sn8_nil, sn7_i, sn7_b, sn_sl, sn8_sl, slB_some, sn_tup, sn_agg, sn8_agg, mapO, elems])
    generalize (((tightS r c).getD 0 : Nat) : Int) = V at *
    rcases hcase with hcase | hcase | ⟨k1, k2, k3⟩
    · rw [hcase] at c60
      simp (disch := omega) [d19, c19, zipE, go_nil, go_last, go_past, go_pastR, go_blkN, go_blkR, go_blkE, go_skip, go_exit, go_ret, go_scope, go_seq, go_reg, go_regd, go_opdN, go_opd, go_opdG, grdd_b, grdd_u, stpd_some, find_some, go_block, go_cond, cnd_b, go_opsN, go_ops, go_opsG, grd_b, grd_u, stp_some, fin_some, up_some, cont_some, k_call, k_mv, k_pick, k_bin, k_eqB, k_eqA, k_not, k_neg, k_conv, k_alloc, k_boxA, k_boxI, k_boxB, k_boxN, k_boxBs, k_ldR, k_ldA, k_ldI, k_ldB, k_stA, k_stI, k_stB, ldC_some, stC_some, k_mkfn, k_slc, k_slcA, k_ixA, k_ixBs, k_ixSl, k_fadr, k_fld, k_ext, k_len, k_app, k_mn, k_mx, k_nilck, k_build, k_bsl1, k_bsl2, b_add, b_sub, b_mul, b_eql, b_neq, b_lss, b_leq, b_gtr, b_geq, Dn.setLast, Dn.getLast, evalO, mapO, Dn.get, putE, keepE_nil, keepE_cons, kp_some, kp_none, TV.one, TV.isAgg, Dn.part, k_boxR, negb, at0, at1, at2, at3, at4, dT, dF, wrapR_i64, Option.bind_some, Option.map_some, sh_fn, h1, c60]
    · rw [hcase] at ln
      cases hB : (tightS r c).isSome with
      | true =>
        rw [hB] at c60
        simp (disch := omega) [d19, c19, zipE, go_nil, go_last, go_past, go_pastR, go_blkN, go_blkR, go_blkE, go_skip, go_exit, go_ret, go_scope, go_seq, go_reg, go_regd, go_opdN, go_opd, go_opdG, grdd_b, grdd_u, stpd_some, find_some, go_block, go_cond, cnd_b, go_opsN, go_ops, go_opsG, grd_b, grd_u, stp_some, fin_some, up_some, cont_some, k_call, k_mv, k_pick, k_bin, k_eqB, k_eqA, k_not, k_neg, k_conv, k_alloc, k_boxA, k_boxI, k_boxB, k_boxN, k_boxBs, k_ldR, k_ldA, k_ldI, k_ldB, k_stA, k_stI, k_stB, ldC_some, stC_some, k_mkfn, k_slc, k_slcA, k_ixA, k_ixBs, k_ixSl, k_fadr, k_fld, k_ext, k_len, k_app, k_mn, k_mx, k_nilck, k_build, k_bsl1, k_bsl2, b_add, b_sub, b_mul, b_eql, b_neq, b_lss, b_leq, b_gtr, b_geq, Dn.setLast, Dn.getLast, evalO, mapO, Dn.get, putE, keepE_nil, keepE_cons, kp_some, kp_none, TV.one, TV.isAgg, Dn.part, k_boxR, negb, at0, at1, at2, at3, at4, dT, dF, wrapR_i64, Option.bind_some, Option.map_some, sh_fn, h1, c60]
      | false =>
        rw [hB] at c60
        have ln' : dkc pg (den pg) (.ld 1 false) [.ref 0 2] H1 = some (.i .i64 1, H1) := ln
        simp (disch := omega) [d19, c19, zipE, go_nil, go_last, go_past, go_pastR, go_blkN, go_blkR, go_blkE, go_skip, go_exit, go_ret, go_scope, go_seq, go_reg, go_regd, go_opdN, go_opd, go_opdG, grdd_b, grdd_u, stpd_some, find_some, go_block, go_cond, cnd_b, go_opsN, go_ops, go_opsG, grd_b, grd_u, stp_some, fin_some, up_some, cont_some, k_call, k_mv, k_pick, k_bin, k_eqB, k_eqA, k_not, k_neg, k_conv, k_alloc, k_boxA, k_boxI, k_boxB, k_boxN, k_boxBs, k_ldR, k_ldA, k_ldI, k_ldB, k_stA, k_stI, k_stB, ldC_some, stC_some, k_mkfn, k_slc, k_slcA, k_ixA, k_ixBs, k_ixSl, k_fadr, k_fld, k_ext, k_len, k_app, k_mn, k_mx, k_nilck, k_build, k_bsl1, k_bsl2, b_add, b_sub, b_mul, b_eql, b_neq, b_lss, b_leq, b_gtr, b_geq, Dn.setLast, Dn.getLast, evalO, mapO, Dn.get, putE, keepE_nil, keepE_cons, kp_some, kp_none, TV.one, TV.isAgg, Dn.part, k_boxR, negb, at0, at1, at2, at3, at4, dT, dF, wrapR_i64, Option.bind_some, Option.map_some, sh_fn, h1, c60, ln']
    · rw [k1] at c60
      have c61 := (Bv.ref h2).call61 k3
      simp only [Int.natCast_zero] at c61
      have hne : ¬ (((r * c : Nat) : Int) = 1) := by omega
      generalize ((r * c : Nat) : Int) = N at *
      simp (disch := omega) [d19, c19, zipE, go_nil, go_last, go_past, go_pastR, go_blkN, go_blkR, go_blkE, go_skip, go_exit, go_ret, go_scope, go_seq, go_reg, go_regd, go_opdN, go_opd, go_opdG, grdd_b, grdd_u, stpd_some, find_some, go_block, go_cond, cnd_b, go_opsN, go_ops, go_opsG, grd_b, grd_u, stp_some, fin_some, up_some, cont_some, k_call, k_mv, k_pick, k_bin, k_eqB, k_eqA, k_not, k_neg, k_conv, k_alloc, k_boxA, k_boxI, k_boxB, k_boxN, k_boxBs, k_ldR, k_ldA, k_ldI, k_ldB, k_stA, k_stI, k_stB, ldC_some, stC_some, k_mkfn, k_slc, k_slcA, k_ixA, k_ixBs, k_ixSl, k_fadr, k_fld, k_ext, k_len, k_app, k_mn, k_mx, k_nilck, k_build, k_bsl1, k_bsl2, b_add, b_sub, b_mul, b_eql, b_neq, b_lss, b_leq, b_gtr, b_geq, Dn.setLast, Dn.getLast, evalO, mapO, Dn.get, putE, keepE_nil, keepE_cons, kp_some, kp_none, TV.one, TV.isAgg, Dn.part, k_boxR, negb, at0, at1, at2, at3, at4, dT, dF, wrapR_i64, Option.bind_some, Option.map_some, sh_fn, h1, c60, ln, hne, c61, eqn]
  cases hts : (tightS r c).isSome with
  | true =>
    have hcl := cl_tight h hts
    exact ⟨.nilsl, [], by rw [hcl]; exact nilres hcl (.inl hts), rfl, (fun e => by rw [hcl] at e; cases e), fun _ => rfl, by simp⟩
  | false =>
    by_cases hone : r * c = 1
    · have hcl : hasCl r c = false := by
        have := h.ok (P := fun r c => !(r * c == 1) || !hasCl r c) (by kernel_rfl)
        simpa [hone] using this
      exact ⟨.nilsl, [], by rw [hcl]; exact nilres hcl (.inr (.inl hone)), rfl, (fun e => by rw [hcl] at e; cases e), fun _ => rfl, by simp⟩
    · rcases fn61 (pg := pg) hF (closed := true) h (first := 0) (by omega) with ⟨p61, hno⟩ | ⟨q, p61, hq⟩
      · have hcl : hasCl r c = false := by
          cases hc : hasCl r c with
          | false => rfl
          | true =>
            obtain ⟨q, hq⟩ := clos_yes hc
            exact (hno q hq).elim
        exact ⟨.nilsl, [], by rw [hcl]; exact nilres hcl (.inr (.inr ⟨hts, hone, p61⟩)), rfl, (fun e => by rw [hcl] at e; cases e), fun _ => rfl, by simp⟩
      · have hcl : hasCl r c = true := by
          cases hc : hasCl r c with
          | true => rfl
          | false => exact (clos_no h hts hc q hq).elim
        obtain ⟨t1, t2⟩ := compl_tour h (by omega) hq
        refine ⟨elI.lt false (nI (0 :: q)), nI (0 :: q), ?_, rfl, fun _ => ⟨t1, t2 rfl⟩, (fun e => by rw [hcl] at e; cases e), by rw [tourB_len t1]; exact hn⟩
        rw [hcl]
        have c61 := (Bv.ref h2).call61 p61
        have eqq : dkc pg (den pg) (.eqN 0 true) [elI.lt false (nI (0 :: q)), .nilsl] H1 = some (.b true, H1) := rfl
        have hs : mapO (snap .fin H1 8) [elI.lt false (nI (0 :: q)), .b true, .i .i64 0] = some [elI.lt false (nI (0 :: q)), .b true, .i .i64 0] := by
          have : snap .fin H1 8 (elI.lt false (nI (0 :: q))) = some (elI.lt false (nI (0 :: q))) := snap_intsF H1 6 _
          simp [mapO, this, sn_i, sn_b, sn_nil, sn8_i, sn8_b, sn8_nil, sn7_i, sn7_b, sn_sl, sn8_sl, slB_some, sn_tup, sn_agg, sn8_agg, mapO, elems]
        refine .of2 (x := .ret) (e := [(4, elI.lt false (nI (0 :: q))), (5, .b true), (6, .i .i64 0)]) (H' := H1) (hF.S _ _ (by decide)) (d := d19) (by rw [hF.F]; rfl) rfl ?_ (.inl rfl) rfl (by simp) hs
        rw [hts] at c60
        simp only [Int.natCast_zero] at c61
        have hne : ¬ (((r * c : Nat) : Int) = 1) := by omega
        generalize ((r * c : Nat) : Int) = N at *
        generalize (((tightS r c).getD 0 : Nat) : Int) = V at *
        generalize elI.lt false (nI (0 :: q)) = LL at *
        simp (disch := omega) [d19, c19, zipE, go_nil, go_last, go_past, go_pastR, go_blkN, go_blkR, go_blkE, go_skip, go_exit, go_ret, go_scope, go_seq, go_reg, go_regd, go_opdN, go_opd, go_opdG, grdd_b, grdd_u, stpd_some, find_some, go_block, go_cond, cnd_b, go_opsN, go_ops, go_opsG, grd_b, grd_u, stp_some, fin_some, up_some, cont_some, k_call, k_mv, k_pick, k_bin, k_eqB, k_eqA, k_not, k_neg, k_conv, k_alloc, k_boxA, k_boxI, k_boxB, k_boxN, k_boxBs, k_ldR, k_ldA, k_ldI, k_ldB, k_stA, k_stI, k_stB, ldC_some, stC_some, k_mkfn, k_slc, k_slcA, k_ixA, k_ixBs, k_ixSl, k_fadr, k_fld, k_ext, k_len, k_app, k_mn, k_mx, k_nilck, k_build, k_bsl1, k_bsl2, b_add, b_sub, b_mul, b_eql, b_neq, b_lss, b_leq, b_gtr, b_geq, Dn.setLast, Dn.getLast, evalO, mapO, Dn.get, putE, keepE_nil, keepE_cons, kp_some, kp_none, TV.one, TV.isAgg, Dn.part, k_boxR, negb, at0, at1, at2, at3, at4, dT, dF, wrapR_i64, Option.bind_some, Option.map_some, sh_fn, h1, c60, ln, hne, c61, eqq]

end Go.Proofs.Tryd.Dn

/-
  Knight: the reference's word on closed tours and tours: all boards.
-/

namespace Go.Proofs.Tryd.Dn
open Go.Dn

end Go.Proofs.Tryd.Dn

/-
  Knight: the law of tours found, run.
-/

namespace Go.Proofs.Tryd.Dn
open Go.Dn

end Go.Proofs.Tryd.Dn

/-
  Knight: Schwenk's law, run.
-/

namespace Go.Proofs.Tryd.Dn
open Go.Dn

theorem tourB_near {r c : Nat} {l : List Int} (h : tourB r c l = true) {i : Nat} (hi : i + 1 < l.length) {s t : Nat} (hs : l.getD i 0 = (s : Int)) (ht : l.getD (i + 1) 0 = (t : Int)) : near c s t = true := by
  unfold tourB at h
  rw [Bool.and_eq_true, Bool.and_eq_true] at h
  have h1 := h.1.2
  unfold isWay at h1
  rw [Bool.and_eq_true] at h1
  have h2 := List.all_eq_true.1 h1.1 (i + 1) (List.mem_range.2 hi)
  unfold wayAt at h2
  rw [Bool.and_eq_true, ht, show i + 1 - 1 = i by omega, hs, Int.toNat_natCast, Int.toNat_natCast] at h2
  simpa using h2.2

end Go.Proofs.Tryd.Dn

