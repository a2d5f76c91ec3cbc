/-
  Knight: closed tours and tours, found or not, in the program.
-/
import Derived.Test.YtdjbpmgbaggfbaaDoorKft
import Derived.Test.YtdjbpmgbaggfbaaDoorKfp
import Derived.Test.YtdjbpmgbaggfbaaDoorKe
import Derived.Test.YtdjbpmgbaggfbaaDoorKf9
set_option linter.unusedSimpArgs false
set_option linter.unusedVariables false

namespace Go.Proofs.Tryd.Dn
open Go.Dn

def hasTr (r c : Nat) : Bool := !noTour.contains (r, c)

theorem tour_yes {r c : Nat} (h : Brd r c) (hb : hasTr r c = true) : ∃ s, s < r * c ∧ ∃ q, Compl c s false s (allBut (r * c) s) q := by
  have h1 := h.ok (P := fun r c => noTour.contains (r, c) || witO.any fun w => w.1 == r && w.2.1 == c) (by kernel_rfl)
  have h0 : noTour.contains (r, c) = false := by unfold hasTr at hb; simpa using hb
  rw [h0, Bool.false_or] at h1
  obtain ⟨w, hw, h1⟩ := List.any_eq_true.1 h1
  rw [Bool.and_eq_true, beq_iff_eq, beq_iff_eq] at h1
  obtain ⟨rfl, rfl⟩ := h1
  have h2 := List.all_eq_true.1 witO_ok w hw
  have h3 : (witO.all fun w => decide (w.2.2.1 < w.1 * w.2.1)) = true := by kernel_rfl
  have h4 := of_decide_eq_true (List.all_eq_true.1 h3 w hw)
  exact ⟨_, h4, _, complB_is _ _ _ h2⟩

theorem noneB_at {r c s : Nat} (h : Brd r c) (hs : s < r * c) (hn : noneB (tbl r c) (r * c) false = true) : ∀ q, ¬ Compl c s false s (allBut (r * c) s) q := by
  unfold noneB at hn
  have := List.all_eq_true.1 hn s (List.mem_range.2 hs)
  exact none_of h hs (by simpa using this)

theorem tour_no {r c s : Nat} (h : Brd r c) (hs : s < r * c) (hb : hasTr r c = false) : ∀ q, ¬ Compl c s false s (allBut (r * c) s) q := by
  refine noneB_at h hs ?_
  have h0 : noTour.contains (r, c) = true := by unfold hasTr at hb; simpa using hb
  have h0' : (r, c) ∈ noTour := by simpa using h0
  by_cases hm : (r, c) ∈ [(3, 5), (5, 3), (3, 6), (6, 3), (4, 4), (3, 8), (8, 3)]
  · have h5 : ¬ ((r, c) = (3, 8)) ∧ ¬ ((r, c) = (8, 3)) := by
      refine ⟨fun e => ?_, fun e => ?_⟩ <;> rw [e] at h0 <;> exact absurd h0 (by decide)
    simp only [List.mem_cons, Prod.mk.injEq, List.not_mem_nil, or_false] at hm h5
    rcases hm with ⟨rfl, rfl⟩ | ⟨rfl, rfl⟩ | ⟨rfl, rfl⟩ | ⟨rfl, rfl⟩ | ⟨rfl, rfl⟩ | ⟨rfl, rfl⟩ | ⟨rfl, rfl⟩
    · exact no_3_5
    · exact no_5_3
    · exact no_3_6
    · exact no_6_3
    · exact no_4_4
    · exact absurd ⟨rfl, rfl⟩ h5.1
    · exact absurd ⟨rfl, rfl⟩ h5.2
  · exact List.all_eq_true.1 no_small (r, c) (List.mem_filter.2 ⟨h0', by
      cases hcon : ([(3, 5), (5, 3), (3, 6), (6, 3), (4, 4), (3, 8), (8, 3)] : List (Nat × Nat)).contains (r, c) with
      | false => rfl
      | true => exact absurd (by simpa using hcon) hm⟩)

/-! the program -/
theorem l20_1_all {pg : Pg} (hF : Free pg) {r c : Nat} (h : Brd r c) : ∀ (d k : Nat) (H : Heap), k + d = r * c → H[0]? = some (.cells (bM r c) true) → (∀ s, s < k → ∀ q, ¬ Compl c s false s (allBut (r * c) s) q) →
    (∃ s q T H', s < r * c ∧ Compl c s false s (allBut (r * c) s) q ∧ den pg l20_1 [(7, .ref 0 0), (23, .i .i64 ((r * c : Nat) : Int)), (24, .i .i64 (k : Int))] H = some ⟨.ret, [(4, T), (5, .b true), (6, .i .i64 0)], H'⟩ ∧ Wy H' T (nI (s :: q))) ∨
    ((∀ s, s < r * c → ∀ q, ¬ Compl c s false s (allBut (r * c) s) q) ∧ ∃ e H', den pg l20_1 [(7, .ref 0 0), (23, .i .i64 ((r * c : Nat) : Int)), (24, .i .i64 (k : Int))] H = some ⟨.exit 0, e, H'⟩)
  | 0, k, H, hd, hb, hno => by
    obtain rfl : k = r * c := by omega
    refine .inr ⟨hno, _, H, by
      rw [l20_1, den_loop]
      simp (disch := omega) [b20_0, go_nil, go_last, go_past, go_pastR, go_blkN, go_blkR, go_blkE, go_skip, go_exit, go_ret, go_scope, go_seq, go_reg, go_regd, go_opdN, go_opd, go_opdG, grdd_b, grdd_u, stpd_some, find_some, go_block, go_cond, cnd_b, go_opsN, go_ops, go_opsG, grd_b, grd_u, stp_some, fin_some, up_some, cont_some, k_call, k_mv, k_pick, k_bin, k_eqB, k_eqA, k_not, k_neg, k_conv, k_alloc, k_boxA, k_boxI, k_boxB, k_boxN, k_boxBs, k_ldR, k_ldA, k_ldI, k_ldB, k_stA, k_stI, k_stB, ldC_some, stC_some, k_mkfn, k_slc, k_slcA, k_ixA, k_ixBs, k_ixSl, k_fadr, k_fld, k_ext, k_len, k_app, k_mn, k_mx, k_nilck, k_build, k_bsl1, k_bsl2, b_add, b_sub, b_mul, b_eql, b_neq, b_lss, b_leq, b_gtr, b_geq, Dn.setLast, Dn.getLast, evalO, mapO, Dn.get, putE, keepE_nil, keepE_cons, kp_some, kp_none, TV.one, TV.isAgg, Dn.part, k_boxR, negb, at0, at1, at2, at3, at4, dT, dF, wrapR_i64, Option.bind_some, Option.map_some]
      rfl⟩
  | d + 1, k, H, hd, hb, hno => by
    have hn := h.n36
    have hlt : decide ((k : Int) < ((r * c : Nat) : Int)) = true := dT (by omega)
    have hBv : Bv r c H (.ref 0 0) := Bv.ref hb
    unfold Bv at hBv
    have hsn : snapArgs H [] [.ref 0 0, .i .i64 (k : Int), .b false] = some [.bp true (.agg (bM r c)), .i .i64 (k : Int), .b false] := by simp [snapArgs, hBv, sn_i, sn_b]
    rcases body61 (pg := pg) hF (closed := false) h (first := k) (by omega) with ⟨⟨Hs, p61⟩, hn61⟩ | ⟨q, O', Hs, p61, hw, hq⟩
    · have c61 := call_graft (H := H) hsn p61 (r' := .nilsl) rfl
      have eqn : ∀ K, dkc pg (den pg) (.eqN 0 true) [.nilsl, .nilsl] K = some (.b false, K) := fun K => rfl
      have wk : wrapR .i64 ((k : Int) + 1) = .i .i64 ((k + 1 : Nat) : Int) := by rw [← Int.natCast_succ]; exact wrapR_i64 (by omega)
      obtain ⟨H2, hH2⟩ : ∃ H2 : Heap, H2 = H ++ Hs.map grO := ⟨_, rfl⟩
      rw [← hH2] at c61
      have step : den pg l20_1 [(7, .ref 0 0), (23, .i .i64 ((r * c : Nat) : Int)), (24, .i .i64 (k : Int))] H = den pg l20_1 [(7, .ref 0 0), (23, .i .i64 ((r * c : Nat) : Int)), (24, .i .i64 ((k + 1 : Nat) : Int))] H2 := by
        generalize ((k + 1 : Nat) : Int) = K1 at *
        generalize ((r * c : Nat) : Int) = N at *
        rw [l20_1, den_loop]
        simp (disch := omega) [l20_1, b20_0, go_nil, go_last, go_past, go_pastR, go_blkN, go_blkR, go_blkE, go_skip, go_exit, go_ret, go_scope, go_seq, go_reg, go_regd, go_opdN, go_opd, go_opdG, grdd_b, grdd_u, stpd_some, find_some, go_block, go_cond, cnd_b, go_opsN, go_ops, go_opsG, grd_b, grd_u, stp_some, fin_some, up_some, cont_some, k_call, k_mv, k_pick, k_bin, k_eqB, k_eqA, k_not, k_neg, k_conv, k_alloc, k_boxA, k_boxI, k_boxB, k_boxN, k_boxBs, k_ldR, k_ldA, k_ldI, k_ldB, k_stA, k_stI, k_stB, ldC_some, stC_some, k_mkfn, k_slc, k_slcA, k_ixA, k_ixBs, k_ixSl, k_fadr, k_fld, k_ext, k_len, k_app, k_mn, k_mx, k_nilck, k_build, k_bsl1, k_bsl2, b_add, b_sub, b_mul, b_eql, b_neq, b_lss, b_leq, b_gtr, b_geq, Dn.setLast, Dn.getLast, evalO, mapO, Dn.get, putE, keepE_nil, keepE_cons, kp_some, kp_none, TV.one, TV.isAgg, Dn.part, k_boxR, negb, at0, at1, at2, at3, at4, dT, dF, wrapR_i64, Option.bind_some, Option.map_some, hlt, c61, eqn, wk]
      rw [step]
      refine l20_1_all hF h d (k + 1) H2 (by omega) (by rw [hH2, List.getElem?_append_left (List.getElem?_eq_some_iff.1 hb).1]; exact hb) fun s hs q => ?_
      by_cases hsk : s = k
      · subst hsk; exact hn61 q
      · exact hno s (by omega) q
    · obtain ⟨T, g1, g2, g3⟩ := wy_graft (H := H) hw
      have hT : T ≠ .nilsl := fun he => by
        rcases g2 with g | ⟨id, v, g, _⟩
        · rcases g with ⟨_, g⟩ | ⟨_, id, ag, c', g, _⟩
          · simp [nI] at g
          · rw [he] at g; cases g
        · rw [he] at g; cases g
      have c61 := call_graft (H := H) hsn p61 (r' := T) (by
        rcases hw with g | ⟨id, v, rfl, _⟩
        · rcases g with ⟨rfl, _⟩ | ⟨_, id, ag, c', rfl, _⟩ <;> exact g1
        · exact g1)
      have eqn : ∀ K, dkc pg (den pg) (.eqN 0 true) [T, .nilsl] K = some (.b true, K) := fun K => by
        rcases g2 with g | ⟨id, v, rfl, _⟩
        · rcases g with ⟨g, _⟩ | ⟨_, id, ag, c', rfl, _⟩
          · exact absurd g hT
          · rfl
        · rfl
      obtain ⟨H2, hH2⟩ : ∃ H2 : Heap, H2 = H ++ Hs.map grO := ⟨_, rfl⟩
      rw [← hH2] at c61 g2
      refine .inl ⟨k, q, T, H2, by omega, hq, ?_, g2⟩
      generalize ((r * c : Nat) : Int) = N at *
      rw [l20_1, den_loop]
      simp (disch := omega) [b20_0, go_nil, go_last, go_past, go_pastR, go_blkN, go_blkR, go_blkE, go_skip, go_exit, go_ret, go_scope, go_seq, go_reg, go_regd, go_opdN, go_opd, go_opdG, grdd_b, grdd_u, stpd_some, find_some, go_block, go_cond, cnd_b, go_opsN, go_ops, go_opsG, grd_b, grd_u, stp_some, fin_some, up_some, cont_some, k_call, k_mv, k_pick, k_bin, k_eqB, k_eqA, k_not, k_neg, k_conv, k_alloc, k_boxA, k_boxI, k_boxB, k_boxN, k_boxBs, k_ldR, k_ldA, k_ldI, k_ldB, k_stA, k_stI, k_stB, ldC_some, stC_some, k_mkfn, k_slc, k_slcA, k_ixA, k_ixBs, k_ixSl, k_fadr, k_fld, k_ext, k_len, k_app, k_mn, k_mx, k_nilck, k_build, k_bsl1, k_bsl2, b_add, b_sub, b_mul, b_eql, b_neq, b_lss, b_leq, b_gtr, b_geq, Dn.setLast, Dn.getLast, evalO, mapO, Dn.get, putE, keepE_nil, keepE_cons, kp_some, kp_none, TV.one, TV.isAgg, Dn.part, k_boxR, negb, at0, at1, at2, at3, at4, dT, dF, wrapR_i64, Option.bind_some, Option.map_some, hlt, c61, eqn]

theorem body20 {pg : Pg} (hF : Free pg) {r c : Nat} (h : Brd r c) : ∃ T l H', bodyRun pg (den pg) 20 [.i .i64 (r : Int), .i .i64 (c : Int)] [] = some (.tup [T, .b (hasTr r c), .i .i64 0], H') ∧ Wy H' T l ∧ (hasTr r c = true → tourB r c l = true) ∧ (hasTr r c = false → l = []) ∧ l.length ≤ 36 := by
  have hn := h.n36
  obtain ⟨H1, h1, h2, h3, h4⟩ := body59n (pg := pg) hF h []
  simp only [List.length_nil] at h1 h2
  have ln : dkc pg (den pg) (.ld 1 false) [.ref 0 2] H1 = some (.i .i64 ((r * c : Nat) : Int), H1) := by simp [dkc, dk, h2, part_n]
  rcases l20_1_all (pg := pg) hF h (r * c) 0 H1 (by omega) h2 (fun s hs => by omega) with ⟨s, q, T, H2, hs, hq, hr, hw⟩ | ⟨hno, e, H2, hr⟩
  · have hcl : hasTr r c = true := by
      cases hc : hasTr r c with
      | true => rfl
      | false => exact (tour_no h hs hc q hq).elim
    obtain ⟨t1, _⟩ := compl_tour h hs hq
    refine ⟨T, nI (s :: q), H2, ?_, hw, fun _ => t1, (fun e => by rw [hcl] at e; cases e), by rw [tourB_len t1]; exact hn⟩
    rw [hcl]
    simp only [Int.natCast_zero] at hr
    refine body_ofs (x := .ret) (e := [(4, T), (5, .b true), (6, .i .i64 0)]) (vs := [T, .b true, .i .i64 0]) (d := d20) (by rw [hF.F]; rfl) rfl ?_ (.inl rfl) rfl
    generalize ((r * c : Nat) : Int) = N at *
    simp (disch := omega) [d20, c20, zipE, go_nil, go_last, go_past, go_pastR, go_blkN, go_blkR, go_blkE, go_skip, go_exit, go_ret, go_scope, go_seq, go_reg, go_regd, go_opdN, go_opd, go_opdG, grdd_b, grdd_u, stpd_some, find_some, go_block, go_cond, cnd_b, go_opsN, go_ops, go_opsG, grd_b, grd_u, stp_some, fin_some, up_some, cont_some, k_call, k_mv, k_pick, k_bin, k_eqB, k_eqA, k_not, k_neg, k_conv, k_alloc, k_boxA, k_boxI, k_boxB, k_boxN, k_boxBs, k_ldR, k_ldA, k_ldI, k_ldB, k_stA, k_stI, k_stB, ldC_some, stC_some, k_mkfn, k_slc, k_slcA, k_ixA, k_ixBs, k_ixSl, k_fadr, k_fld, k_ext, k_len, k_app, k_mn, k_mx, k_nilck, k_build, k_bsl1, k_bsl2, b_add, b_sub, b_mul, b_eql, b_neq, b_lss, b_leq, b_gtr, b_geq, Dn.setLast, Dn.getLast, evalO, mapO, Dn.get, putE, keepE_nil, keepE_cons, kp_some, kp_none, TV.one, TV.isAgg, Dn.part, k_boxR, negb, at0, at1, at2, at3, at4, dT, dF, wrapR_i64, Option.bind_some, Option.map_some, sh_fn, h1, ln, go_denK (c := l20_1) rfl, hr]
  · have hcl : hasTr r c = false := by
      cases hc : hasTr r c with
      | false => rfl
      | true =>
        obtain ⟨s, hs, q, hq⟩ := tour_yes h hc
        exact (hno s hs q hq).elim
    refine ⟨.nilsl, [], H2, ?_, .inl (.inl ⟨rfl, rfl⟩), (fun e => by rw [hcl] at e; cases e), fun _ => rfl, by simp⟩
    rw [hcl]
    simp only [Int.natCast_zero] at hr
    refine body_ofs (x := .ret) (e := [(4, .nilsl), (5, .b false), (6, .i .i64 0)]) (vs := [.nilsl, .b false, .i .i64 0]) (d := d20) (by rw [hF.F]; rfl) rfl ?_ (.inl rfl) rfl
    generalize ((r * c : Nat) : Int) = N at *
    simp (disch := omega) [d20, c20, zipE, go_nil, go_last, go_past, go_pastR, go_blkN, go_blkR, go_blkE, go_skip, go_exit, go_ret, go_scope, go_seq, go_reg, go_regd, go_opdN, go_opd, go_opdG, grdd_b, grdd_u, stpd_some, find_some, go_block, go_cond, cnd_b, go_opsN, go_ops, go_opsG, grd_b, grd_u, stp_some, fin_some, up_some, cont_some, k_call, k_mv, k_pick, k_bin, k_eqB, k_eqA, k_not, k_neg, k_conv, k_alloc, k_boxA, k_boxI, k_boxB, k_boxN, k_boxBs, k_ldR, k_ldA, k_ldI, k_ldB, k_stA, k_stI, k_stB, ldC_some, stC_some, k_mkfn, k_slc, k_slcA, k_ixA, k_ixBs, k_ixSl, k_fadr, k_fld, k_ext, k_len, k_app, k_mn, k_mx, k_nilck, k_build, k_bsl1, k_bsl2, b_add, b_sub, b_mul, b_eql, b_neq, b_lss, b_leq, b_gtr, b_geq, Dn.setLast, Dn.getLast, evalO, mapO, Dn.get, putE, keepE_nil, keepE_cons, kp_some, kp_none, TV.one, TV.isAgg, Dn.part, k_boxR, negb, at0, at1, at2, at3, at4, dT, dF, wrapR_i64, Option.bind_some, Option.map_some, sh_fn, h1, ln, go_denK (c := l20_1) rfl, hr]

end Go.Proofs.Tryd.Dn

/-
  Knight: the reference's word on closed tours and tours: all boards.
-/

namespace Go.Proofs.Tryd.Dn
open Go.Dn

end Go.Proofs.Tryd.Dn

/-
  Knight: the law of tours found, run.
-/

namespace Go.Proofs.Tryd.Dn
open Go.Dn

end Go.Proofs.Tryd.Dn

/-
  Knight: Schwenk's law, run.
-/

namespace Go.Proofs.Tryd.Dn
open Go.Dn

theorem Brd.swap {r c : Nat} (h : Brd r c) : Brd c r := ⟨h.c1, h.r1, h.c8, h.r8, by rw [Nat.mul_comm]; exact h.n36⟩

end Go.Proofs.Tryd.Dn

