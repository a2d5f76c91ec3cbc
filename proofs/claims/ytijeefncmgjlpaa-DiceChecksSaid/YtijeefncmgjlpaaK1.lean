/-
  The reference's own check of dice; a die copied.
-/
import Derived.Test.YtijeefncmgjlpaaEb
set_option linter.unusedSimpArgs false
set_option linter.unusedVariables false

set_option maxHeartbeats 1000000
namespace Go.Proofs.Try.Dn
open Go.Dn

theorem lnM {A : TV} {l : List Int} (hA : SV A l) (K : Heap) : (lenK 0 A K).map (fun (n : Nat) => TV.i .i64 (n : Int)) = some (.i .i64 (l.length : Int)) := by rw [(hA.view K).lenK K]; rfl

def DieOk (l : List Int) : Prop := (∀ x ∈ l, 0 ≤ x ∧ x ≤ 60) ∧ l.Pairwise (· ≤ ·)

theorem isDieB_iff (l : List Int) : isDieB l = true ↔ 0 < l.length ∧ DieOk l := by
  constructor
  · intro h
    have hp : 0 < l.length := by
      unfold isDieB at h
      simp only [Bool.and_eq_true, decide_eq_true_eq] at h
      exact h.1.1.1
    obtain ⟨a, ha⟩ : ∃ a, l[0]? = some a := ⟨_, List.getElem?_eq_getElem hp⟩
    obtain ⟨z, hz⟩ : ∃ z, l[l.length - 1]? = some z := ⟨_, List.getElem?_eq_getElem (by omega)⟩
    rw [isDieB_at ha hz, Bool.and_eq_true, Bool.and_eq_true] at h
    obtain ⟨⟨h1, h2⟩, h3⟩ := h
    have h1 := of_decide_eq_true h1
    have h2 := of_decide_eq_true h2
    have h3 := of_decide_eq_true h3
    refine ⟨hp, fun x hx => ?_, h3⟩
    obtain ⟨j, hj, rfl⟩ := List.getElem_of_mem hx
    have q1 := srt_at h3 (Nat.zero_le j) ha (List.getElem?_eq_getElem hj)
    have q2 := srt_at h3 (show j ≤ l.length - 1 by omega) (List.getElem?_eq_getElem hj) hz
    omega
  · rintro ⟨hp, h1, h2⟩
    obtain ⟨a, ha⟩ : ∃ a, l[0]? = some a := ⟨_, List.getElem?_eq_getElem (by omega)⟩
    obtain ⟨z, hz⟩ : ∃ z, l[l.length - 1]? = some z := ⟨_, List.getElem?_eq_getElem (by omega)⟩
    rw [isDieB_at ha hz, dT (h1 a (List.mem_of_getElem? ha)).1, dT (h1 z (List.mem_of_getElem? hz)).2, dT h2]
    rfl

theorem dieOk_snoc {l : List Int} {i : Nat} {x : Int} (h : DieOk (l.take i)) (hx : l[i]? = some x) (h0 : 0 ≤ x) (h1 : x ≤ 60) (h2 : ∀ y, 0 < i → l[i - 1]? = some y → y ≤ x) : DieOk (l.take (i + 1)) := by
  have e : l.take (i + 1) = l.take i ++ [x] := by rw [List.take_add_one, hx]; rfl
  have hlt := (List.getElem?_eq_some_iff.1 hx).1
  rw [e]
  refine ⟨fun y hy => ?_, List.pairwise_append.2 ⟨h.2, by simp, fun a ha b hb => ?_⟩⟩
  · rcases List.mem_append.1 hy with hy | hy
    · exact h.1 y hy
    · rw [List.mem_singleton.1 hy]; exact ⟨h0, h1⟩
  · rw [List.mem_singleton.1 hb]
    obtain ⟨j, hj, rfl⟩ := List.getElem_of_mem ha
    have hj' : j < i := by simp at hj; omega
    obtain ⟨y, hy⟩ : ∃ y, l[i - 1]? = some y := ⟨_, List.getElem?_eq_getElem (by omega)⟩
    have h3 := h2 y (by omega) hy
    have hy' : (l.take i)[i - 1]? = some y := by rw [List.getElem?_take, if_pos (by omega)]; exact hy
    have := srt_at h.2 (show j ≤ i - 1 by omega) (List.getElem?_eq_getElem hj) hy'
    omega

theorem l64_1_all {pg : Pg} {A : TV} {l : List Int} (hA : SV A l) (hl : l.length ≤ 1000000) {H : Heap} : ∀ (r i : Nat), i + r = l.length → DieOk (l.take i) →
    (∃ e, DieOk l ∧ den pg l64_1 [(0, A), (3, .i .i64 (i : Int))] H = some ⟨.exit 0, (0, A) :: (3, .i .i64 (l.length : Int)) :: e, H⟩) ∨ (¬ DieOk l ∧ den pg l64_1 [(0, A), (3, .i .i64 (i : Int))] H = some ⟨.ret, [(2, .b false)], H⟩)
  | 0, i, hi, hd => by
    obtain rfl : i = l.length := by omega
    rw [List.take_length] at hd
    refine .inl ⟨[(7, .b false)], hd, ?_⟩
    have ln := lnM hA
    generalize (l.length : Int) = M at *
    rw [l64_1, den_loop]
    simp (disch := omega) [b64_0, go_nil, go_last, go_past, go_pastR, go_blkN, go_blkR, go_blkE, go_skip, go_exit, go_ret, go_scope, go_seq, go_reg, go_regd, go_opdN, go_opd, go_opdG, grdd_b, grdd_u, stpd_some, find_some, go_block, go_cond, cnd_b, go_opsN, go_ops, go_opsG, grd_b, grd_u, stp_some, fin_some, up_some, cont_some, k_call, k_mv, k_pick, k_bin, k_eqB, k_eqA, k_not, k_neg, k_conv, k_alloc, k_boxA, k_boxI, k_boxB, k_boxN, k_boxBs, k_ldR, k_ldA, k_ldI, k_ldB, k_stA, k_stI, k_stB, ldC_some, stC_some, k_mkfn, k_slc, k_slcA, k_ixA, k_ixBs, k_ixSl, k_fadr, k_fld, k_ext, k_len, k_app, k_mn, k_mx, k_nilck, k_build, k_bsl1, k_bsl2, b_add, b_sub, b_mul, b_eql, b_neq, b_lss, b_leq, b_gtr, b_geq, Dn.setLast, Dn.getLast, evalO, mapO, Dn.get, putE, keepE_nil, keepE_cons, kp_some, kp_none, TV.one, TV.isAgg, Dn.part, k_boxR, negb, at0, at1, at2, at3, at4, dT, dF, wrapR_i64, Option.bind_some, Option.map_some, ln]
  | r + 1, i, hi, hd => by
    obtain ⟨x, hx⟩ : ∃ x, l[i]? = some x := ⟨_, List.getElem?_eq_getElem (by omega)⟩
    obtain ⟨p, p1, p2⟩ := ixI (pg := pg) (R := den pg) (hA.view H) hx
    have ln := lnM hA
    have bad : (x < 0 ∨ 60 < x ∨ ∃ y, 0 < i ∧ l[i - 1]? = some y ∧ x < y) → ¬ DieOk l := fun h hd => by
      have h1 := hd.1 x (List.mem_of_getElem? hx)
      rcases h with h | h | ⟨y, h2, h3, h4⟩
      · omega
      · omega
      · have := srt_at hd.2 (show i - 1 ≤ i by omega) h3 hx; omega
    have w2 : wrapR .i64 ((i : Int) + 1) = .i .i64 ((i + 1 : Nat) : Int) := by rw [← Int.natCast_succ]; exact wrapR_i64 (by omega)
    by_cases c1 : x < 0
    · refine .inr ⟨bad (.inl c1), ?_⟩
      have dd : decide ((i : Int) < (l.length : Int)) = true := dT (by omega)
      generalize (i : Int) = I at *
      generalize (l.length : Int) = M at *
      clear w2 bad hd hi
      rw [l64_1, den_loop]
      simp (disch := omega) [b64_0, go_nil, go_last, go_past, go_pastR, go_blkN, go_blkR, go_blkE, go_skip, go_exit, go_ret, go_scope, go_seq, go_reg, go_regd, go_opdN, go_opd, go_opdG, grdd_b, grdd_u, stpd_some, find_some, go_block, go_cond, cnd_b, go_opsN, go_ops, go_opsG, grd_b, grd_u, stp_some, fin_some, up_some, cont_some, k_call, k_mv, k_pick, k_bin, k_eqB, k_eqA, k_not, k_neg, k_conv, k_alloc, k_boxA, k_boxI, k_boxB, k_boxN, k_boxBs, k_ldR, k_ldA, k_ldI, k_ldB, k_stA, k_stI, k_stB, ldC_some, stC_some, k_mkfn, k_slc, k_slcA, k_ixA, k_ixBs, k_ixSl, k_fadr, k_fld, k_ext, k_len, k_app, k_mn, k_mx, k_nilck, k_build, k_bsl1, k_bsl2, b_add, b_sub, b_mul, b_eql, b_neq, b_lss, b_leq, b_gtr, b_geq, Dn.setLast, Dn.getLast, evalO, mapO, Dn.get, putE, keepE_nil, keepE_cons, kp_some, kp_none, TV.one, TV.isAgg, Dn.part, k_boxR, negb, at0, at1, at2, at3, at4, dT, dF, wrapR_i64, Option.bind_some, Option.map_some, ln, dd, p1, p2, c1]
    · by_cases c2 : 60 < x
      · refine .inr ⟨bad (.inr (.inl c2)), ?_⟩
        have dd : decide ((i : Int) < (l.length : Int)) = true := dT (by omega)
        have d2 : decide (x > 60) = true := dT c2
        generalize (i : Int) = I at *
        generalize (l.length : Int) = M at *
        clear w2 bad hd hi
        rw [l64_1, den_loop]
        simp (disch := omega) [b64_0, go_nil, go_last, go_past, go_pastR, go_blkN, go_blkR, go_blkE, go_skip, go_exit, go_ret, go_scope, go_seq, go_reg, go_regd, go_opdN, go_opd, go_opdG, grdd_b, grdd_u, stpd_some, find_some, go_block, go_cond, cnd_b, go_opsN, go_ops, go_opsG, grd_b, grd_u, stp_some, fin_some, up_some, cont_some, k_call, k_mv, k_pick, k_bin, k_eqB, k_eqA, k_not, k_neg, k_conv, k_alloc, k_boxA, k_boxI, k_boxB, k_boxN, k_boxBs, k_ldR, k_ldA, k_ldI, k_ldB, k_stA, k_stI, k_stB, ldC_some, stC_some, k_mkfn, k_slc, k_slcA, k_ixA, k_ixBs, k_ixSl, k_fadr, k_fld, k_ext, k_len, k_app, k_mn, k_mx, k_nilck, k_build, k_bsl1, k_bsl2, b_add, b_sub, b_mul, b_eql, b_neq, b_lss, b_leq, b_gtr, b_geq, Dn.setLast, Dn.getLast, evalO, mapO, Dn.get, putE, keepE_nil, keepE_cons, kp_some, kp_none, TV.one, TV.isAgg, Dn.part, k_boxR, negb, at0, at1, at2, at3, at4, dT, dF, wrapR_i64, Option.bind_some, Option.map_some, ln, dd, p1, p2, c1, d2]
      · have d2 : decide (x > 60) = false := dF c2
        have go : (∀ y, 0 < i → l[i - 1]? = some y → y ≤ x) → den pg l64_1 [(0, A), (3, .i .i64 (i : Int))] H = den pg l64_1 [(0, A), (3, .i .i64 ((i + 1 : Nat) : Int))] H → _ := fun hyy e => by
          have := l64_1_all (pg := pg) hA hl (H := H) r (i + 1) (by omega) (dieOk_snoc hd hx (by omega) (by omega) hyy)
          rw [← e] at this
          exact this
        by_cases c3 : 0 < i
        · obtain ⟨y, hy⟩ : ∃ y, l[i - 1]? = some y := ⟨_, List.getElem?_eq_getElem (by omega)⟩
          obtain ⟨q, q1, q2⟩ := ixI (pg := pg) (R := den pg) (hA.view H) hy
          have w1 : wrapR .i64 ((i : Int) - 1) = .i .i64 ((i - 1 : Nat) : Int) := by rw [show (i : Int) - 1 = ((i - 1 : Nat) : Int) by omega]; exact wrapR_i64 (by omega)
          have d0 : decide ((i : Int) > 0) = true := dT (by omega)
          have dd : decide ((i : Int) < (l.length : Int)) = true := dT (by omega)
          by_cases c4 : x < y
          · refine .inr ⟨bad (.inr (.inr ⟨y, c3, hy, c4⟩)), ?_⟩
            have d4 : decide (y > x) = true := dT c4
            generalize ((i - 1 : Nat) : Int) = I1 at *
            generalize (i : Int) = I at *
            generalize (l.length : Int) = M at *
            clear w2 bad hd hi go
            rw [l64_1, den_loop]
            simp (disch := omega) [b64_0, go_nil, go_last, go_past, go_pastR, go_blkN, go_blkR, go_blkE, go_skip, go_exit, go_ret, go_scope, go_seq, go_reg, go_regd, go_opdN, go_opd, go_opdG, grdd_b, grdd_u, stpd_some, find_some, go_block, go_cond, cnd_b, go_opsN, go_ops, go_opsG, grd_b, grd_u, stp_some, fin_some, up_some, cont_some, k_call, k_mv, k_pick, k_bin, k_eqB, k_eqA, k_not, k_neg, k_conv, k_alloc, k_boxA, k_boxI, k_boxB, k_boxN, k_boxBs, k_ldR, k_ldA, k_ldI, k_ldB, k_stA, k_stI, k_stB, ldC_some, stC_some, k_mkfn, k_slc, k_slcA, k_ixA, k_ixBs, k_ixSl, k_fadr, k_fld, k_ext, k_len, k_app, k_mn, k_mx, k_nilck, k_build, k_bsl1, k_bsl2, b_add, b_sub, b_mul, b_eql, b_neq, b_lss, b_leq, b_gtr, b_geq, Dn.setLast, Dn.getLast, evalO, mapO, Dn.get, putE, keepE_nil, keepE_cons, kp_some, kp_none, TV.one, TV.isAgg, Dn.part, k_boxR, negb, at0, at1, at2, at3, at4, dT, dF, wrapR_i64, Option.bind_some, Option.map_some, ln, dd, p1, p2, q1, q2, w1, c1, d2, d0, d4]
          · have d4 : decide (y > x) = false := dF c4
            refine go (fun y' _ hy' => by rw [hy] at hy'; have := Option.some.inj hy'; omega) ?_
            generalize ((i - 1 : Nat) : Int) = I1 at *
            generalize ((i + 1 : Nat) : Int) = I2 at *
            generalize (i : Int) = I at *
            generalize (l.length : Int) = M at *
            clear bad hd hi go
            rw [l64_1, den_loop]
            simp (disch := omega) [l64_1, b64_0, go_nil, go_last, go_past, go_pastR, go_blkN, go_blkR, go_blkE, go_skip, go_exit, go_ret, go_scope, go_seq, go_reg, go_regd, go_opdN, go_opd, go_opdG, grdd_b, grdd_u, stpd_some, find_some, go_block, go_cond, cnd_b, go_opsN, go_ops, go_opsG, grd_b, grd_u, stp_some, fin_some, up_some, cont_some, k_call, k_mv, k_pick, k_bin, k_eqB, k_eqA, k_not, k_neg, k_conv, k_alloc, k_boxA, k_boxI, k_boxB, k_boxN, k_boxBs, k_ldR, k_ldA, k_ldI, k_ldB, k_stA, k_stI, k_stB, ldC_some, stC_some, k_mkfn, k_slc, k_slcA, k_ixA, k_ixBs, k_ixSl, k_fadr, k_fld, k_ext, k_len, k_app, k_mn, k_mx, k_nilck, k_build, k_bsl1, k_bsl2, b_add, b_sub, b_mul, b_eql, b_neq, b_lss, b_leq, b_gtr, b_geq, Dn.setLast, Dn.getLast, evalO, mapO, Dn.get, putE, keepE_nil, keepE_cons, kp_some, kp_none, TV.one, TV.isAgg, Dn.part, k_boxR, negb, at0, at1, at2, at3, at4, dT, dF, wrapR_i64, Option.bind_some, Option.map_some, ln, dd, p1, p2, q1, q2, w1, w2, c1, d2, d0, d4]
        · obtain rfl : i = 0 := by omega
          have dd : decide ((0 : Int) < (l.length : Int)) = true := dT (by omega)
          refine go (fun y h => by omega) ?_
          rw [show ((0 + 1 : Nat) : Int) = 1 from rfl]
          simp only [Int.natCast_zero] at p1 ⊢
          generalize (l.length : Int) = M at *
          clear w2
          clear bad hd hi go
          rw [l64_1, den_loop]
          simp (disch := omega) [l64_1, b64_0, go_nil, go_last, go_past, go_pastR, go_blkN, go_blkR, go_blkE, go_skip, go_exit, go_ret, go_scope, go_seq, go_reg, go_regd, go_opdN, go_opd, go_opdG, grdd_b, grdd_u, stpd_some, find_some, go_block, go_cond, cnd_b, go_opsN, go_ops, go_opsG, grd_b, grd_u, stp_some, fin_some, up_some, cont_some, k_call, k_mv, k_pick, k_bin, k_eqB, k_eqA, k_not, k_neg, k_conv, k_alloc, k_boxA, k_boxI, k_boxB, k_boxN, k_boxBs, k_ldR, k_ldA, k_ldI, k_ldB, k_stA, k_stI, k_stB, ldC_some, stC_some, k_mkfn, k_slc, k_slcA, k_ixA, k_ixBs, k_ixSl, k_fadr, k_fld, k_ext, k_len, k_app, k_mn, k_mx, k_nilck, k_build, k_bsl1, k_bsl2, b_add, b_sub, b_mul, b_eql, b_neq, b_lss, b_leq, b_gtr, b_geq, Dn.setLast, Dn.getLast, evalO, mapO, Dn.get, putE, keepE_nil, keepE_cons, kp_some, kp_none, TV.one, TV.isAgg, Dn.part, k_boxR, negb, at0, at1, at2, at3, at4, dT, dF, wrapR_i64, Option.bind_some, Option.map_some, ln, dd, p1, p2, c1, d2]

theorem fn64 {pg : Pg} (hF : Free pg) {A : TV} {l : List Int} (hA : SV A l) (hl : l.length ≤ 1000000) : PFn pg 64 [A] (.b (isDieB l)) := by
  have ln := lnM hA
  have h := l64_1_all (pg := pg) hA hl (H := []) l.length 0 (by omega) ⟨by simp, by simp⟩
  simp only [Int.natCast_zero] at h
  refine .of1 (x := .ret) (e := [(2, .b (isDieB l))]) (H' := []) (hF.S _ _) (d := d64) (by rw [hF.F]; rfl) rfl ?_ (.inl rfl) rfl (by simp [sn_i, sn_b, sn_nil, sn8_i, sn8_b, sn8_nil, sn7_i, sn7_b, sn_sl, sn8_sl, slB_some, sn_tup, sn_agg, sn8_agg, mapO, elems])
  rcases h with ⟨e, h1, h2⟩ | ⟨h1, h2⟩
  · by_cases h0 : 0 < l.length
    · rw [(isDieB_iff l).2 ⟨h0, h1⟩]
      have d0 : decide ((l.length : Int) > 0) = true := dT (by omega)
      generalize (l.length : Int) = M at *
      clear h0
      simp (disch := omega) [d64, c64, zipE, go_nil, go_last, go_past, go_pastR, go_blkN, go_blkR, go_blkE, go_skip, go_exit, go_ret, go_scope, go_seq, go_reg, go_regd, go_opdN, go_opd, go_opdG, grdd_b, grdd_u, stpd_some, find_some, go_block, go_cond, cnd_b, go_opsN, go_ops, go_opsG, grd_b, grd_u, stp_some, fin_some, up_some, cont_some, k_call, k_mv, k_pick, k_bin, k_eqB, k_eqA, k_not, k_neg, k_conv, k_alloc, k_boxA, k_boxI, k_boxB, k_boxN, k_boxBs, k_ldR, k_ldA, k_ldI, k_ldB, k_stA, k_stI, k_stB, ldC_some, stC_some, k_mkfn, k_slc, k_slcA, k_ixA, k_ixBs, k_ixSl, k_fadr, k_fld, k_ext, k_len, k_app, k_mn, k_mx, k_nilck, k_build, k_bsl1, k_bsl2, b_add, b_sub, b_mul, b_eql, b_neq, b_lss, b_leq, b_gtr, b_geq, Dn.setLast, Dn.getLast, evalO, mapO, Dn.get, putE, keepE_nil, keepE_cons, kp_some, kp_none, TV.one, TV.isAgg, Dn.part, k_boxR, negb, at0, at1, at2, at3, at4, dT, dF, wrapR_i64, Option.bind_some, Option.map_some, ln, go_denK (c := l64_1) rfl, h2, d0]
    · have hb : isDieB l = false := by
        cases hh : isDieB l with
        | false => rfl
        | true => exact absurd ((isDieB_iff l).1 hh).1 h0
      rw [hb]
      have d0 : decide ((l.length : Int) > 0) = false := dF (by omega)
      generalize (l.length : Int) = M at *
      clear h0
      simp (disch := omega) [d64, c64, zipE, go_nil, go_last, go_past, go_pastR, go_blkN, go_blkR, go_blkE, go_skip, go_exit, go_ret, go_scope, go_seq, go_reg, go_regd, go_opdN, go_opd, go_opdG, grdd_b, grdd_u, stpd_some, find_some, go_block, go_cond, cnd_b, go_opsN, go_ops, go_opsG, grd_b, grd_u, stp_some, fin_some, up_some, cont_some, k_call, k_mv, k_pick, k_bin, k_eqB, k_eqA, k_not, k_neg, k_conv, k_alloc, k_boxA, k_boxI, k_boxB, k_boxN, k_boxBs, k_ldR, k_ldA, k_ldI, k_ldB, k_stA, k_stI, k_stB, ldC_some, stC_some, k_mkfn, k_slc, k_slcA, k_ixA, k_ixBs, k_ixSl, k_fadr, k_fld, k_ext, k_len, k_app, k_mn, k_mx, k_nilck, k_build, k_bsl1, k_bsl2, b_add, b_sub, b_mul, b_eql, b_neq, b_lss, b_leq, b_gtr, b_geq, Dn.setLast, Dn.getLast, evalO, mapO, Dn.get, putE, keepE_nil, keepE_cons, kp_some, kp_none, TV.one, TV.isAgg, Dn.part, k_boxR, negb, at0, at1, at2, at3, at4, dT, dF, wrapR_i64, Option.bind_some, Option.map_some, ln, go_denK (c := l64_1) rfl, h2, d0]
  · have hb : isDieB l = false := by
      cases hh : isDieB l with
      | false => rfl
      | true => exact absurd ((isDieB_iff l).1 hh).2 h1
    rw [hb]
    simp (disch := omega) [d64, c64, zipE, go_nil, go_last, go_past, go_pastR, go_blkN, go_blkR, go_blkE, go_skip, go_exit, go_ret, go_scope, go_seq, go_reg, go_regd, go_opdN, go_opd, go_opdG, grdd_b, grdd_u, stpd_some, find_some, go_block, go_cond, cnd_b, go_opsN, go_ops, go_opsG, grd_b, grd_u, stp_some, fin_some, up_some, cont_some, k_call, k_mv, k_pick, k_bin, k_eqB, k_eqA, k_not, k_neg, k_conv, k_alloc, k_boxA, k_boxI, k_boxB, k_boxN, k_boxBs, k_ldR, k_ldA, k_ldI, k_ldB, k_stA, k_stI, k_stB, ldC_some, stC_some, k_mkfn, k_slc, k_slcA, k_ixA, k_ixBs, k_ixSl, k_fadr, k_fld, k_ext, k_len, k_app, k_mn, k_mx, k_nilck, k_build, k_bsl1, k_bsl2, b_add, b_sub, b_mul, b_eql, b_neq, b_lss, b_leq, b_gtr, b_geq, Dn.setLast, Dn.getLast, evalO, mapO, Dn.get, putE, keepE_nil, keepE_cons, kp_some, kp_none, TV.one, TV.isAgg, Dn.part, k_boxR, negb, at0, at1, at2, at3, at4, dT, dF, wrapR_i64, Option.bind_some, Option.map_some, ln, go_denK (c := l64_1) rfl, h2]

end Go.Proofs.Try.Dn

/-
  The reference's own check of rows of dice; a die copied.
-/

set_option maxHeartbeats 1000000
namespace Go.Proofs.Try.Dn
open Go.Dn

theorem lnS {T : TV} {ls : List (List Int)} (hT : SSV T ls) (K : Heap) : (lenK 0 T K).map (fun (n : Nat) => TV.i .i64 (n : Int)) = some (.i .i64 (ls.length : Int)) := by rw [hT.len K]; rfl

theorem call64 {pg : Pg} (hF : Free pg) {A : TV} {l : List Int} (hA : SV A l) (hl : l.length ≤ 1000000) (H : Heap) : callRun pg (den pg) (.pu []) [.fn 64 [] [], A] H = some (.b (isDieB l), H) := by
  obtain ⟨A', s1, hA'⟩ := hA.snap H 7
  exact PFn.call (fn64 hF hA' hl) (args := [A]) (ks := []) (fs := []) (cs := []) (by simp [snapArgs, s1])

def longB (x : List Int) : Bool := decide (8 < x.length)

theorem l32_1_all {pg : Pg} {T : TV} {ls : List (List Int)} (hT : SSV T ls) (hl : ls.length ≤ 1000000) {H : Heap} {lg : Bool} : ∀ (r i : Nat), i + r = ls.length →
    ∃ e, den pg l32_1 [(0, T), (3, .b (lg || (ls.take i).any longB)), (4, .i .i64 (i : Int))] H = some ⟨.exit 0, (0, T) :: (3, .b (lg || ls.any longB)) :: e, H⟩
  | 0, i, hi => by
    obtain rfl : i = ls.length := by omega
    rw [List.take_length]
    refine ⟨[(4, .i .i64 (ls.length : Int)), (12, .b false)], ?_⟩
    have ln := lnS hT
    generalize (ls.length : Int) = M at *
    generalize (lg || ls.any longB) = z at *
    rw [l32_1, den_loop]
    simp (disch := omega) [b32_0, go_nil, go_last, go_past, go_pastR, go_blkN, go_blkR, go_blkE, go_skip, go_exit, go_ret, go_scope, go_seq, go_reg, go_regd, go_opdN, go_opd, go_opdG, grdd_b, grdd_u, stpd_some, find_some, go_block, go_cond, cnd_b, go_opsN, go_ops, go_opsG, grd_b, grd_u, stp_some, fin_some, up_some, cont_some, k_call, k_mv, k_pick, k_bin, k_eqB, k_eqA, k_not, k_neg, k_conv, k_alloc, k_boxA, k_boxI, k_boxB, k_boxN, k_boxBs, k_ldR, k_ldA, k_ldI, k_ldB, k_stA, k_stI, k_stB, ldC_some, stC_some, k_mkfn, k_slc, k_slcA, k_ixA, k_ixBs, k_ixSl, k_fadr, k_fld, k_ext, k_len, k_app, k_mn, k_mx, k_nilck, k_build, k_bsl1, k_bsl2, b_add, b_sub, b_mul, b_eql, b_neq, b_lss, b_leq, b_gtr, b_geq, Dn.setLast, Dn.getLast, evalO, mapO, Dn.get, putE, keepE_nil, keepE_cons, kp_some, kp_none, TV.one, TV.isAgg, Dn.part, k_boxR, negb, at0, at1, at2, at3, at4, dT, dF, wrapR_i64, Option.bind_some, Option.map_some, ln]
  | r + 1, i, hi => by
    obtain ⟨x, hx⟩ : ∃ x, ls[i]? = some x := ⟨_, List.getElem?_eq_getElem (by omega)⟩
    obtain ⟨p, L, p1, p2, hL⟩ := hT.ix (pg := pg) (R := den pg) hx H
    obtain ⟨e, ih⟩ := l32_1_all (pg := pg) hT hl (H := H) (lg := lg) r (i + 1) (by omega)
    refine ⟨e, Eq.trans ?_ ih⟩
    have htk : (ls.take (i + 1)).any longB = ((ls.take i).any longB || longB x) := by
      rw [List.take_add_one, hx]; simp
    rw [htk]
    have ln := lnS hT
    have lx := lnM hL
    have w2 : wrapR .i64 ((i : Int) + 1) = .i .i64 ((i + 1 : Nat) : Int) := by rw [← Int.natCast_succ]; exact wrapR_i64 (by omega)
    have dd : decide ((i : Int) < (ls.length : Int)) = true := dT (by omega)
    have d8 : decide ((x.length : Int) > 8) = longB x := by unfold longB; rw [decide_eq_decide]; omega
    rw [← Bool.or_assoc]
    generalize (lg || (ls.take i).any longB) = z at *
    generalize longB x = y at *
    generalize ((i + 1 : Nat) : Int) = I2 at *
    generalize (i : Int) = I at *
    generalize (ls.length : Int) = M at *
    generalize (x.length : Int) = X at *
    clear hi htk ih
    rw [l32_1, den_loop]
    cases z <;> simp (disch := omega) [l32_1, b32_0, go_nil, go_last, go_past, go_pastR, go_blkN, go_blkR, go_blkE, go_skip, go_exit, go_ret, go_scope, go_seq, go_reg, go_regd, go_opdN, go_opd, go_opdG, grdd_b, grdd_u, stpd_some, find_some, go_block, go_cond, cnd_b, go_opsN, go_ops, go_opsG, grd_b, grd_u, stp_some, fin_some, up_some, cont_some, k_call, k_mv, k_pick, k_bin, k_eqB, k_eqA, k_not, k_neg, k_conv, k_alloc, k_boxA, k_boxI, k_boxB, k_boxN, k_boxBs, k_ldR, k_ldA, k_ldI, k_ldB, k_stA, k_stI, k_stB, ldC_some, stC_some, k_mkfn, k_slc, k_slcA, k_ixA, k_ixBs, k_ixSl, k_fadr, k_fld, k_ext, k_len, k_app, k_mn, k_mx, k_nilck, k_build, k_bsl1, k_bsl2, b_add, b_sub, b_mul, b_eql, b_neq, b_lss, b_leq, b_gtr, b_geq, Dn.setLast, Dn.getLast, evalO, mapO, Dn.get, putE, keepE_nil, keepE_cons, kp_some, kp_none, TV.one, TV.isAgg, Dn.part, k_boxR, negb, at0, at1, at2, at3, at4, dT, dF, wrapR_i64, Option.bind_some, Option.map_some, ln, dd, p1, p2, lx, w2, d8]

theorem l32_3_all {pg : Pg} (hF : Free pg) {T : TV} {ls : List (List Int)} (hT : SSV T ls) (hl : ls.length ≤ 1000000) (hL : ∀ x ∈ ls, x.length ≤ 1000000) {H : Heap} : ∀ (r i : Nat), i + r = ls.length → (ls.take i).all isDieB = true →
    (∃ e, ls.all isDieB = true ∧ den pg l32_3 [(0, T), (5, .i .i64 (i : Int))] H = some ⟨.exit 2, (0, T) :: e, H⟩) ∨ (ls.all isDieB = false ∧ den pg l32_3 [(0, T), (5, .i .i64 (i : Int))] H = some ⟨.ret, [(2, .i .i64 10)], H⟩)
  | 0, i, hi, ha => by
    obtain rfl : i = ls.length := by omega
    rw [List.take_length] at ha
    refine .inl ⟨[(5, .i .i64 (ls.length : Int)), (28, .b false)], ha, ?_⟩
    have ln := lnS hT
    generalize (ls.length : Int) = M at *
    rw [l32_3, den_loop]
    simp (disch := omega) [b32_2, go_nil, go_last, go_past, go_pastR, go_blkN, go_blkR, go_blkE, go_skip, go_exit, go_ret, go_scope, go_seq, go_reg, go_regd, go_opdN, go_opd, go_opdG, grdd_b, grdd_u, stpd_some, find_some, go_block, go_cond, cnd_b, go_opsN, go_ops, go_opsG, grd_b, grd_u, stp_some, fin_some, up_some, cont_some, k_call, k_mv, k_pick, k_bin, k_eqB, k_eqA, k_not, k_neg, k_conv, k_alloc, k_boxA, k_boxI, k_boxB, k_boxN, k_boxBs, k_ldR, k_ldA, k_ldI, k_ldB, k_stA, k_stI, k_stB, ldC_some, stC_some, k_mkfn, k_slc, k_slcA, k_ixA, k_ixBs, k_ixSl, k_fadr, k_fld, k_ext, k_len, k_app, k_mn, k_mx, k_nilck, k_build, k_bsl1, k_bsl2, b_add, b_sub, b_mul, b_eql, b_neq, b_lss, b_leq, b_gtr, b_geq, Dn.setLast, Dn.getLast, evalO, mapO, Dn.get, putE, keepE_nil, keepE_cons, kp_some, kp_none, TV.one, TV.isAgg, Dn.part, k_boxR, negb, at0, at1, at2, at3, at4, dT, dF, wrapR_i64, Option.bind_some, Option.map_some, ln]
  | r + 1, i, hi, ha => by
    obtain ⟨x, hx⟩ : ∃ x, ls[i]? = some x := ⟨_, List.getElem?_eq_getElem (by omega)⟩
    obtain ⟨p, L, p1, p2, hLx⟩ := hT.ix (pg := pg) (R := den pg) hx H
    have c64 := call64 (pg := pg) hF hLx (hL x (List.mem_of_getElem? hx)) H
    have htk : (ls.take (i + 1)).all isDieB = ((ls.take i).all isDieB && isDieB x) := by
      rw [List.take_add_one, hx]; simp
    have ln := lnS hT
    have w2 : wrapR .i64 ((i : Int) + 1) = .i .i64 ((i + 1 : Nat) : Int) := by rw [← Int.natCast_succ]; exact wrapR_i64 (by omega)
    have dd : decide ((i : Int) < (ls.length : Int)) = true := dT (by omega)
    cases hb : isDieB x with
    | false =>
      refine .inr ⟨?_, ?_⟩
      · rw [List.all_eq_false]
        exact ⟨x, List.mem_of_getElem? hx, by rw [hb]; decide⟩
      · rw [hb] at c64
        generalize (i : Int) = I at *
        generalize (ls.length : Int) = M at *
        clear hi htk w2
        rw [l32_3, den_loop]
        simp (disch := omega) [b32_2, go_nil, go_last, go_past, go_pastR, go_blkN, go_blkR, go_blkE, go_skip, go_exit, go_ret, go_scope, go_seq, go_reg, go_regd, go_opdN, go_opd, go_opdG, grdd_b, grdd_u, stpd_some, find_some, go_block, go_cond, cnd_b, go_opsN, go_ops, go_opsG, grd_b, grd_u, stp_some, fin_some, up_some, cont_some, k_call, k_mv, k_pick, k_bin, k_eqB, k_eqA, k_not, k_neg, k_conv, k_alloc, k_boxA, k_boxI, k_boxB, k_boxN, k_boxBs, k_ldR, k_ldA, k_ldI, k_ldB, k_stA, k_stI, k_stB, ldC_some, stC_some, k_mkfn, k_slc, k_slcA, k_ixA, k_ixBs, k_ixSl, k_fadr, k_fld, k_ext, k_len, k_app, k_mn, k_mx, k_nilck, k_build, k_bsl1, k_bsl2, b_add, b_sub, b_mul, b_eql, b_neq, b_lss, b_leq, b_gtr, b_geq, Dn.setLast, Dn.getLast, evalO, mapO, Dn.get, putE, keepE_nil, keepE_cons, kp_some, kp_none, TV.one, TV.isAgg, Dn.part, k_boxR, negb, at0, at1, at2, at3, at4, dT, dF, wrapR_i64, Option.bind_some, Option.map_some, ln, dd, p1, p2, c64]
    | true =>
      rw [hb] at c64 htk
      have ih := l32_3_all (pg := pg) hF hT hl hL (H := H) r (i + 1) (by omega) (by rw [htk, ha]; rfl)
      have e : den pg l32_3 [(0, T), (5, .i .i64 (i : Int))] H = den pg l32_3 [(0, T), (5, .i .i64 ((i + 1 : Nat) : Int))] H := by
        generalize ((i + 1 : Nat) : Int) = I2 at *
        generalize (i : Int) = I at *
        generalize (ls.length : Int) = M at *
        clear hi htk ih
        rw [l32_3, den_loop]
        simp (disch := omega) [l32_3, b32_2, go_nil, go_last, go_past, go_pastR, go_blkN, go_blkR, go_blkE, go_skip, go_exit, go_ret, go_scope, go_seq, go_reg, go_regd, go_opdN, go_opd, go_opdG, grdd_b, grdd_u, stpd_some, find_some, go_block, go_cond, cnd_b, go_opsN, go_ops, go_opsG, grd_b, grd_u, stp_some, fin_some, up_some, cont_some, k_call, k_mv, k_pick, k_bin, k_eqB, k_eqA, k_not, k_neg, k_conv, k_alloc, k_boxA, k_boxI, k_boxB, k_boxN, k_boxBs, k_ldR, k_ldA, k_ldI, k_ldB, k_stA, k_stI, k_stB, ldC_some, stC_some, k_mkfn, k_slc, k_slcA, k_ixA, k_ixBs, k_ixSl, k_fadr, k_fld, k_ext, k_len, k_app, k_mn, k_mx, k_nilck, k_build, k_bsl1, k_bsl2, b_add, b_sub, b_mul, b_eql, b_neq, b_lss, b_leq, b_gtr, b_geq, Dn.setLast, Dn.getLast, evalO, mapO, Dn.get, putE, keepE_nil, keepE_cons, kp_some, kp_none, TV.one, TV.isAgg, Dn.part, k_boxR, negb, at0, at1, at2, at3, at4, dT, dF, wrapR_i64, Option.bind_some, Option.map_some, ln, dd, p1, p2, c64, w2]
      rw [e]; exact ih

theorem fn32 {pg : Pg} (hF : Free pg) {T : TV} {ls : List (List Int)} (hT : SSV T ls) (hl : ls.length ≤ 1000000) (hL : ∀ x ∈ ls, x.length ≤ 1000000) : PFn pg 32 [T] (.i .i64 (chkD ls)) := by
  have ln := lnS hT
  obtain ⟨e1, r1⟩ := l32_1_all (pg := pg) hT hl (H := []) (lg := decide (6 < ls.length)) ls.length 0 (by omega)
  have r2 := l32_3_all (pg := pg) hF hT hl hL (H := []) ls.length 0 (by omega) rfl
  simp only [List.take_zero, List.any_nil, Bool.or_false, Int.natCast_zero] at r1 r2
  have d6 : decide ((ls.length : Int) > 6) = decide (6 < ls.length) := by rw [decide_eq_decide]; omega
  have key : ∃ (e : Env) (H' : Heap), go pg (den pg) [.c d32.body] .normal (zipE [T] 0) [] = some ⟨.ret, (2, .i .i64 (chkD ls)) :: e, H'⟩ := by
    refine ⟨[], [], ?_⟩
    unfold chkD
    by_cases h1 : 6 < ls.length ∨ (ls.any fun x => decide (8 < x.length)) = true
    · rw [if_pos h1]
      have hz : (decide (6 < ls.length) || ls.any longB) = true := by
        rw [Bool.or_eq_true, decide_eq_true_eq]; exact h1
      rw [hz] at r1
      generalize decide (6 < ls.length) = z at *
      generalize (ls.length : Int) = M at *
      clear h1 hz r2
      simp (disch := omega) [d32, c32, zipE, go_nil, go_last, go_past, go_pastR, go_blkN, go_blkR, go_blkE, go_skip, go_exit, go_ret, go_scope, go_seq, go_reg, go_regd, go_opdN, go_opd, go_opdG, grdd_b, grdd_u, stpd_some, find_some, go_block, go_cond, cnd_b, go_opsN, go_ops, go_opsG, grd_b, grd_u, stp_some, fin_some, up_some, cont_some, k_call, k_mv, k_pick, k_bin, k_eqB, k_eqA, k_not, k_neg, k_conv, k_alloc, k_boxA, k_boxI, k_boxB, k_boxN, k_boxBs, k_ldR, k_ldA, k_ldI, k_ldB, k_stA, k_stI, k_stB, ldC_some, stC_some, k_mkfn, k_slc, k_slcA, k_ixA, k_ixBs, k_ixSl, k_fadr, k_fld, k_ext, k_len, k_app, k_mn, k_mx, k_nilck, k_build, k_bsl1, k_bsl2, b_add, b_sub, b_mul, b_eql, b_neq, b_lss, b_leq, b_gtr, b_geq, Dn.setLast, Dn.getLast, evalO, mapO, Dn.get, putE, keepE_nil, keepE_cons, kp_some, kp_none, TV.one, TV.isAgg, Dn.part, k_boxR, negb, at0, at1, at2, at3, at4, dT, dF, wrapR_i64, Option.bind_some, Option.map_some, ln, d6, go_denK (c := l32_1) rfl, r1]
    · rw [if_neg h1]
      have hz : (decide (6 < ls.length) || ls.any longB) = false := by
        cases hh : (decide (6 < ls.length) || ls.any longB) with
        | false => rfl
        | true => rw [Bool.or_eq_true, decide_eq_true_eq] at hh; exact absurd hh h1
      rw [hz] at r1
      have hz6 : decide (6 < ls.length) = false := by
        cases hh : decide (6 < ls.length) with
        | false => rfl
        | true => rw [hh] at hz; cases hz
      rw [hz6] at d6 r1
      rcases r2 with ⟨e2, a1, a2⟩ | ⟨a1, a2⟩
      · by_cases h0 : ls.length = 0
        · rw [if_pos (.inl h0)]
          have d0 : (ls.length : Int) = 0 := by omega
          generalize (ls.length : Int) = M at *
          clear h1 hz h0
          simp (disch := omega) [d32, c32, zipE, go_nil, go_last, go_past, go_pastR, go_blkN, go_blkR, go_blkE, go_skip, go_exit, go_ret, go_scope, go_seq, go_reg, go_regd, go_opdN, go_opd, go_opdG, grdd_b, grdd_u, stpd_some, find_some, go_block, go_cond, cnd_b, go_opsN, go_ops, go_opsG, grd_b, grd_u, stp_some, fin_some, up_some, cont_some, k_call, k_mv, k_pick, k_bin, k_eqB, k_eqA, k_not, k_neg, k_conv, k_alloc, k_boxA, k_boxI, k_boxB, k_boxN, k_boxBs, k_ldR, k_ldA, k_ldI, k_ldB, k_stA, k_stI, k_stB, ldC_some, stC_some, k_mkfn, k_slc, k_slcA, k_ixA, k_ixBs, k_ixSl, k_fadr, k_fld, k_ext, k_len, k_app, k_mn, k_mx, k_nilck, k_build, k_bsl1, k_bsl2, b_add, b_sub, b_mul, b_eql, b_neq, b_lss, b_leq, b_gtr, b_geq, Dn.setLast, Dn.getLast, evalO, mapO, Dn.get, putE, keepE_nil, keepE_cons, kp_some, kp_none, TV.one, TV.isAgg, Dn.part, k_boxR, negb, at0, at1, at2, at3, at4, dT, dF, wrapR_i64, Option.bind_some, Option.map_some, ln, d6, go_denK (c := l32_1) rfl, r1, go_denK (c := l32_3) rfl, a2, d0]
        · rw [if_neg (by rintro (h | h); exact h0 h; rw [a1] at h; cases h)]
          have d0 : ¬ (ls.length : Int) = 0 := by omega
          generalize (ls.length : Int) = M at *
          clear h1 hz h0
          simp (disch := omega) [d32, c32, zipE, go_nil, go_last, go_past, go_pastR, go_blkN, go_blkR, go_blkE, go_skip, go_exit, go_ret, go_scope, go_seq, go_reg, go_regd, go_opdN, go_opd, go_opdG, grdd_b, grdd_u, stpd_some, find_some, go_block, go_cond, cnd_b, go_opsN, go_ops, go_opsG, grd_b, grd_u, stp_some, fin_some, up_some, cont_some, k_call, k_mv, k_pick, k_bin, k_eqB, k_eqA, k_not, k_neg, k_conv, k_alloc, k_boxA, k_boxI, k_boxB, k_boxN, k_boxBs, k_ldR, k_ldA, k_ldI, k_ldB, k_stA, k_stI, k_stB, ldC_some, stC_some, k_mkfn, k_slc, k_slcA, k_ixA, k_ixBs, k_ixSl, k_fadr, k_fld, k_ext, k_len, k_app, k_mn, k_mx, k_nilck, k_build, k_bsl1, k_bsl2, b_add, b_sub, b_mul, b_eql, b_neq, b_lss, b_leq, b_gtr, b_geq, Dn.setLast, Dn.getLast, evalO, mapO, Dn.get, putE, keepE_nil, keepE_cons, kp_some, kp_none, TV.one, TV.isAgg, Dn.part, k_boxR, negb, at0, at1, at2, at3, at4, dT, dF, wrapR_i64, Option.bind_some, Option.map_some, ln, d6, go_denK (c := l32_1) rfl, r1, go_denK (c := l32_3) rfl, a2, d0]
      · rw [if_pos (.inr a1)]
        generalize (ls.length : Int) = M at *
        clear h1 hz
        simp (disch := omega) [d32, c32, zipE, go_nil, go_last, go_past, go_pastR, go_blkN, go_blkR, go_blkE, go_skip, go_exit, go_ret, go_scope, go_seq, go_reg, go_regd, go_opdN, go_opd, go_opdG, grdd_b, grdd_u, stpd_some, find_some, go_block, go_cond, cnd_b, go_opsN, go_ops, go_opsG, grd_b, grd_u, stp_some, fin_some, up_some, cont_some, k_call, k_mv, k_pick, k_bin, k_eqB, k_eqA, k_not, k_neg, k_conv, k_alloc, k_boxA, k_boxI, k_boxB, k_boxN, k_boxBs, k_ldR, k_ldA, k_ldI, k_ldB, k_stA, k_stI, k_stB, ldC_some, stC_some, k_mkfn, k_slc, k_slcA, k_ixA, k_ixBs, k_ixSl, k_fadr, k_fld, k_ext, k_len, k_app, k_mn, k_mx, k_nilck, k_build, k_bsl1, k_bsl2, b_add, b_sub, b_mul, b_eql, b_neq, b_lss, b_leq, b_gtr, b_geq, Dn.setLast, Dn.getLast, evalO, mapO, Dn.get, putE, keepE_nil, keepE_cons, kp_some, kp_none, TV.one, TV.isAgg, Dn.part, k_boxR, negb, at0, at1, at2, at3, at4, dT, dF, wrapR_i64, Option.bind_some, Option.map_some, ln, d6, go_denK (c := l32_1) rfl, r1, go_denK (c := l32_3) rfl, a2]
  obtain ⟨e, H', k⟩ := key
  exact .of1 (x := .ret) (hF.S _ _) (d := d32) (by rw [hF.F]; rfl) rfl k (.inl rfl) rfl (by simp [sn_i, sn_b, sn_nil, sn8_i, sn8_b, sn8_nil, sn7_i, sn7_b, sn_sl, sn8_sl, slB_some, sn_tup, sn_agg, sn8_agg, mapO, elems])

theorem fn31 {pg : Pg} (hF : Free pg) {A : TV} {l : List Int} (hA : SV A l) (hl : l.length ≤ 9223372036854775807) : PFn pg 31 [A] (elI.lt false (l.take 9)) := by
  have ln := lnM hA
  obtain ⟨v, s1, s2⟩ := slcTo (hA.view []) (k := min l.length 9) (Nat.min_le_left _ _)
  have hmn : (if (9 : Int) < (l.length : Int) then (9 : Int) else (l.length : Int)) = ((min l.length 9 : Nat) : Int) := by split <;> omega
  have htk : l.take (min l.length 9) = l.take 9 := by
    rcases Nat.lt_or_ge l.length 9 with h | h
    · rw [show min l.length 9 = l.length by omega, List.take_length, List.take_of_length_le (by omega)]
    · rw [show min l.length 9 = 9 by omega]
  rw [htk] at s2
  obtain ⟨t', H', a1, a2, -, -, -⟩ := appI (H := []) (t := .nilsl) (l := []) (.inl ⟨rfl, rfl⟩) s2 (by simp; omega)
  refine .inr ⟨hF.S _ _, t', H', ?_, by have := a2.fin elI_flat; simpa using this⟩
  refine body_of (x := .ret) (e := [(2, t')]) (d := d31) (by rw [hF.F]; rfl) rfl ?_ (.inl rfl) rfl
  have w9 : dkc pg (den pg) .mnI [.i .i64 (l.length : Int), .i .i64 9] [] = some (.i .i64 ((min l.length 9 : Nat) : Int), []) := by rw [k_mn, hmn]
  generalize ((min l.length 9 : Nat) : Int) = K at *
  generalize (l.length : Int) = M at *
  simp (disch := omega) [d31, c31, zipE, go_nil, go_last, go_past, go_pastR, go_blkN, go_blkR, go_blkE, go_skip, go_exit, go_ret, go_scope, go_seq, go_reg, go_regd, go_opdN, go_opd, go_opdG, grdd_b, grdd_u, stpd_some, find_some, go_block, go_cond, cnd_b, go_opsN, go_ops, go_opsG, grd_b, grd_u, stp_some, fin_some, up_some, cont_some, k_call, k_mv, k_pick, k_bin, k_eqB, k_eqA, k_not, k_neg, k_conv, k_alloc, k_boxA, k_boxI, k_boxB, k_boxN, k_boxBs, k_ldR, k_ldA, k_ldI, k_ldB, k_stA, k_stI, k_stB, ldC_some, stC_some, k_mkfn, k_slc, k_slcA, k_ixA, k_ixBs, k_ixSl, k_fadr, k_fld, k_ext, k_len, k_app, k_mn, k_mx, k_nilck, k_build, k_bsl1, k_bsl2, b_add, b_sub, b_mul, b_eql, b_neq, b_lss, b_leq, b_gtr, b_geq, Dn.setLast, Dn.getLast, evalO, mapO, Dn.get, putE, keepE_nil, keepE_cons, kp_some, kp_none, TV.one, TV.isAgg, Dn.part, k_boxR, negb, at0, at1, at2, at3, at4, dT, dF, wrapR_i64, Option.bind_some, Option.map_some, ln, w9, s1, a1, -k_mn]

end Go.Proofs.Try.Dn

