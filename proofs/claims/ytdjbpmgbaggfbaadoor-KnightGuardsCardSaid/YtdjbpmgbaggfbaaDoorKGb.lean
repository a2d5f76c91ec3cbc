/-
  Knight: the search for guards finds as few as there may be.
-/
import Derived.Test.YtdjbpmgbaggfbaaDoorKGa
set_option linter.unusedSimpArgs false
set_option linter.unusedVariables false

namespace Go.Proofs.Tryd.Dn
open Go.Dn

theorem k_ixR {pg : Pg} {R : Rec} {s : Nat} (hs : s < 36) (H : Heap) : dkc pg R (.ixA 36 1 false) [.ref 0 3, .i .i64 (s : Int)] H = some (.ref 0 (3 + s), H) := by
  rw [k_ixA 36 1 false 0 3 .i64 (s : Int) H (by omega) (by omega)]
  simp

theorem ld_bM {pg : Pg} {R : Rec} {r c s : Nat} (h : Brd r c) (hs : s < r * c) {H : Heap} (hb : H[0]? = some (.cells (bM r c) true)) : dkc pg R (.ld 1 false) [.ref 0 (3 + s)] H = some (.i .u64 (mv r c s : Int), H) := by
  have hn := h.n36
  have hm : mvTo r c (r * c) s = mv r c s := by unfold mvTo; rw [if_pos hs]
  rw [← hm]
  exact ld_m hb (by omega)

theorem snap_two {H : Heap} {L M s : Nat} {T : TV} {ms : List Nat} (hL : H[L]? = some (.cells [.i .i64 (s : Int)] false)) (hM : H[M]? = some (.cells [.sl L 0 1 false 1 (some 1), elI.lt false (nI ms)] false)) :
    snap .borrow H 9 (.sl M 0 1 false 2 (some 2)) = some (.bs true 1 [.bs true 1 [.i .i64 (s : Int)], elI.lt true (nI ms)]) := by
  rw [sn_sl _ (by decide), hM, slB_some]
  have h1 : snap .borrow H 8 (.sl L 0 1 false 1 (some 1)) = some (.bs true 1 [.i .i64 (s : Int)]) := by
    rw [sn8_sl _ (by decide), hL, slB_some]
    simp [elems, mapO, snS_i]
  have h2 : snap .borrow H 8 (elI.lt false (nI ms)) = some (elI.lt true (nI ms)) := snap_ints false H 6 (nI ms)
  simp [elems, mapO, h1, h2]

theorem cells_one {a : TV} (h : a.one = true) : a.cells = [a] := by cases a <;> simp_all [TV.one, TV.cells]
theorem k_bslV {pg : Pg} {R : Rec} {a b : TV} (ha : a.one = true) (hb : b.one = true) (H : Heap) : dkc pg R (.bsl false [.nilsl] false 2 [0, 1]) [a, b] H = some (.sl H.length 0 1 false 2 (some 2), H ++ [.cells [a, b] false]) := by
  have h1 := cells_one ha
  have h2 := cells_one hb
  simp [dkc, dk, fillP, repl, put2, List.replicate, h1, h2, ha, hb]

theorem gspec {pg : Pg} (hF : Free pg) {r c A : Nat} (h : Brd r c) : ∀ (d set : Nat), set < 2 ^ (r * c) → r * c ≤ pop 64 set + d → GSpec pg r c A set := by
  intro d
  have h64 := lv64 h
  have hn := h.n36
  induction d with
  | zero =>
    intro set hset hd
    by_cases h0 : openS r c set = 0
    · exact gspec0 hF h hset h0
    · have := more_pop h hset h0; omega
  | succ d ih =>
    intro set hset hd
    by_cases h0 : openS r c set = 0
    · exact gspec0 hF h hset h0
    · intro H best hS hb hg
      have hb1 := ld_box (pg := pg) (R := den pg) hS.b rfl
      have hv1 := ld_box (pg := pg) (R := den pg) hS.v rfl
      have hBv : Bv r c H (.ref 0 0) := Bv.ref hS.brd
      have c81 := hBv.call81 (pg := pg) hF h
      have c83 := hBv.call83 (pg := pg) hF h hset
      have an := andN_uu (m := 2 ^ (r * c) - 1) (k := cov r c set) (by omega)
      have c70s := call70 (pg := pg) hF (x := set) (by omega) H
      have c70b := call70 (pg := pg) hF (x := best) (by omega) H
      have hps := pop_le 64 set
      have hpb := pop_le 64 best
      have hol : openS r c set < 18446744073709551616 := by
        have := andN_le (2 ^ (r * c) - 1) (cov r c set) (by omega)
        unfold openS; omega
      have an' : binI .andNot (.i .u64 ((2 ^ (r * c) - 1 : Nat) : Int)) (.i .u64 (cov r c set : Int)) = some (.i .u64 (openS r c set : Int)) := an
      have ne : (((openS r c set : Nat) : Int) == 0) = false := beqF (by omega)
      obtain ⟨hs1, hs2⟩ := open_first h h0
      have c84 := call84 (pg := pg) hF (x := openS r c set) (by omega) hol H
      have w1 : wrapR .i64 ((pop 64 set : Int) + 1) = .i .i64 ((pop 64 set + 1 : Nat) : Int) := by rw [show (pop 64 set : Int) + 1 = ((pop 64 set + 1 : Nat) : Int) by omega]; exact wrapR_i64 (by omega)
      by_cases hcut : pop 64 best ≤ pop 64 set + 1
      · refine ⟨H, best, body_ofs (x := .ret) (e := [(0, .i .u64 (set : Int)), (1, .ref A 0), (3, .ref (A + 2) 0), (5, .i .u64 (openS r c set : Int)), (28, .b true)]) (vs := []) (d := d82) (by rw [hF.F]; rfl) rfl ?_ (.inl rfl) rfl, hS, cut_better h hset h0 hb hg hcut⟩
        have dg : decide (((pop 64 set + 1 : Nat) : Int) ≥ (pop 64 best : Int)) = true := dT (by omega)
        generalize ((pop 64 set + 1 : Nat) : Int) = PS1 at *
        generalize (pop 64 set : Int) = PS at *
        generalize (pop 64 best : Int) = PB at *
        generalize ((2 ^ (r * c) - 1 : Nat) : Int) = AL at *
        generalize openS r c set = OP at *
        generalize cov r c set = CV at *
        simp (disch := omega) [d82, c82, zipE, go_nil, go_last, go_past, go_pastR, go_blkN, go_blkR, go_blkE, go_skip, go_exit, go_ret, go_scope, go_seq, go_reg, go_regd, go_opdN, go_opd, go_opdG, grdd_b, grdd_u, stpd_some, find_some, go_block, go_cond, cnd_b, go_opsN, go_ops, go_opsG, grd_b, grd_u, stp_some, fin_some, up_some, cont_some, k_call, k_mv, k_pick, k_bin, k_eqB, k_eqA, k_not, k_neg, k_conv, k_alloc, k_boxA, k_boxI, k_boxB, k_boxN, k_boxBs, k_ldR, k_ldA, k_ldI, k_ldB, k_stA, k_stI, k_stB, ldC_some, stC_some, k_mkfn, k_slc, k_slcA, k_ixA, k_ixBs, k_ixSl, k_fadr, k_fld, k_ext, k_len, k_app, k_mn, k_mx, k_nilck, k_build, k_bsl1, k_bsl2, b_add, b_sub, b_mul, b_eql, b_neq, b_lss, b_leq, b_gtr, b_geq, Dn.setLast, Dn.getLast, evalO, mapO, Dn.get, putE, keepE_nil, keepE_cons, kp_some, kp_none, TV.one, TV.isAgg, Dn.part, k_boxR, negb, at0, at1, at2, at3, at4, dT, dF, wrapR_i64, Option.bind_some, Option.map_some, hb1, hv1, c81, c83, an', ne, c70s, c70b, w1, dg]
      · have dg : decide (((pop 64 set + 1 : Nat) : Int) ≥ (pop 64 best : Int)) = false := dF (by omega)
        obtain ⟨s, hs⟩ : ∃ s, s = ctz 64 (openS r c set) := ⟨_, rfl⟩
        rw [← hs] at hs1 hs2 c84
        obtain ⟨L, hL⟩ : ∃ L, L = H.length := ⟨_, rfl⟩
        have hlt := hS.lt
        have hpos := hS.pos
        obtain ⟨H1, hH1⟩ : ∃ H1 : Heap, H1 = H ++ [.cells [.i .i64 (s : Int)] false] := ⟨_, rfl⟩
        have k1 := k_bsl1 (pg := pg) (R := den pg) .i64 .i64 0 (s : Int) H
        rw [← hL, ← hH1] at k1
        have hl1 : H1.length = L + 1 := by rw [hH1, hL]; simp
        have hS1 : GdS r c A best H1 := by rw [hH1]; exact hS.more _
        have hb2 := ld_box (pg := pg) (R := den pg) hS1.b rfl
        have fd : dkc pg (den pg) (.fadr 3 36 true) [.ref 0 0] H1 = some (.ref 0 3, H1) := by rw [k_fadr]
        have nk : dkc pg (den pg) .nilck [.ref 0 0] H1 = some (.ref 0 0, H1) := rfl
        have ixr := k_ixR (pg := pg) (R := den pg) (s := s) (by omega) H1
        have lm := ld_bM (pg := pg) (R := den pg) h hs1 hS1.brd
        have hmvl := mv_bound h hs1
        have c64 := call64 (pg := pg) hF (x := mv r c s) (by omega) H1
        obtain ⟨H2, hH2⟩ : ∃ H2 : Heap, H2 = H1 ++ [.cells [.sl L 0 1 false 1 (some 1), elI.lt false (nI (mem64 (mv r c s)))] false] := ⟨_, rfl⟩
        have k2 : dkc pg (den pg) (.bsl false [.nilsl] false 2 [0, 1]) [.sl L 0 1 false 1 (some 1), elI.lt false (nI (mem64 (mv r c s)))] H1 = some (.sl (L + 1) 0 1 false 2 (some 2), H2) := by
          rw [hH2, ← hl1]
          exact k_bslV rfl (El.lt_one elI false (nI (mem64 (mv r c s)))) H1
        have hS2 : GdS r c A best H2 := by rw [hH2]; exact hS1.more _
        have gL : H2[L]? = some (.cells [.i .i64 (s : Int)] false) := by rw [hH2, List.getElem?_append_left (by omega), hH1, hL]; exact getLast _ _
        have gM : H2[L + 1]? = some (.cells [.sl L 0 1 false 1 (some 1), elI.lt false (nI (mem64 (mv r c s)))] false) := by rw [hH2, ← hl1]; exact getLast _ _
        have sn := snap_two (T := .nilsl) gL gM
        have f85 := fn85 (pg := pg) hF (b := true) (X := .bs true 1 [.i .i64 (s : Int)]) (Y := elI.lt true (nI (mem64 (mv r c s)))) (x := [(s : Int)]) (y := nI (mem64 (mv r c s))) (.inr ⟨true, rfl⟩) (SV.lt true _) (by simp) (by have := mem64_le (mv r c s); simp [nI_len]; omega)
        have hcat : [(s : Int)] ++ nI (mem64 (mv r c s)) = nI (s :: mem64 (mv r c s)) := rfl
        rw [hcat] at f85
        have c85 := PFn.call f85 (args := [.sl (L + 1) 0 1 false 2 (some 2)]) (ks := []) (fs := []) (cs := []) (H := H2) (by simp [snapArgs, sn])
        obtain ⟨ts, hts⟩ : ∃ ts, ts = s :: mem64 (mv r c s) := ⟨_, rfl⟩
        rw [← hts] at c85
        have htlen : ts.length ≤ 65 := by rw [hts]; have := mem64_le (mv r c s); simp; omega
        have hT : SV (elI.lt false (nI ts)) (nI ts) := SV.lt false _
        have lnT : ∀ K, lenK 0 (elI.lt false (nI ts)) K = some ts.length := fun K => by have := (hT.view K).lenK K; rwa [nI_len] at this
        have hin : ∀ t, t ∈ ts → t < r * c := fun t ht => by
          rw [hts] at ht
          rcases List.mem_cons.1 ht with rfl | ht
          · exact hs1
          · exact mem64_in hmvl ht
        have hnot : ∀ t, t ∈ ts → set.testBit t = true → False := fun t ht hb => by
          have hcv : (cov r c set).testBit s = true := by
            rw [hts] at ht
            rcases List.mem_cons.1 ht with rfl | ht
            · exact (cov_bit h hset hs1).2 (.inl hb)
            · have htn := mem64_in hmvl ht
              have hmb := (mem_mem64 (x := mv r c s) (by omega)).1 ht
              rw [mv_near h hs1 htn, near_comm] at hmb
              exact (cov_bit h hset hs1).2 (.inr ⟨t, hb, htn, hmb⟩)
          rw [hcv] at hs2; cases hs2
        obtain ⟨e, H3, best', q1, q2, q3, q4, q5, q6⟩ := l82_all (pg := pg) (A := A) h hset hT hin (by omega) (fun t ht hb => ih (set ||| 2 ^ t) (or_lt hset (Nat.pow_lt_pow_right (by decide) (hin t ht))) (by
            have := pop_add1 (x := set) (t := t) (by omega) (by have := hin t ht; omega) hb
            omega)) hnot ts.length 0 H2 best best (by omega) hS2 hb hg (Nat.le_refl _) (fun j hj => absurd hj (by omega))
        simp only [Int.natCast_zero] at q1
        refine ⟨H3, best', body_ofs (x := .normal) (e := e) (vs := []) (d := d82) (by rw [hF.F]; rfl) rfl ?_ (.inr rfl) rfl, q2, ⟨q3, q4, q5, fun g g1 g2 g3 => ?_⟩⟩
        · generalize ((pop 64 set + 1 : Nat) : Int) = PS1 at *
          generalize (pop 64 set : Int) = PS at *
          generalize (pop 64 best : Int) = PB at *
          generalize ((2 ^ (r * c) - 1 : Nat) : Int) = AL at *
          generalize openS r c set = OP at *
          generalize cov r c set = CV at *
          generalize elI.lt false (nI (mem64 (mv r c s))) = MS at *
          generalize elI.lt false (nI ts) = TS at *
          generalize ts.length = N at *
          generalize mv r c s = MV at *
          simp (disch := omega) [d82, c82, zipE, go_nil, go_last, go_past, go_pastR, go_blkN, go_blkR, go_blkE, go_skip, go_exit, go_ret, go_scope, go_seq, go_reg, go_regd, go_opdN, go_opd, go_opdG, grdd_b, grdd_u, stpd_some, find_some, go_block, go_cond, cnd_b, go_opsN, go_ops, go_opsG, grd_b, grd_u, stp_some, fin_some, up_some, cont_some, k_call, k_mv, k_pick, k_bin, k_eqB, k_eqA, k_not, k_neg, k_conv, k_alloc, k_boxA, k_boxI, k_boxB, k_boxN, k_boxBs, k_ldR, k_ldA, k_ldI, k_ldB, k_stA, k_stI, k_stB, ldC_some, stC_some, k_mkfn, k_slc, k_slcA, k_ixA, k_ixBs, k_ixSl, k_fadr, k_fld, k_ext, k_len, k_app, k_mn, k_mx, k_nilck, k_build, k_bsl1, k_bsl2, b_add, b_sub, b_mul, b_eql, b_neq, b_lss, b_leq, b_gtr, b_geq, Dn.setLast, Dn.getLast, evalO, mapO, Dn.get, putE, keepE_nil, keepE_cons, kp_some, kp_none, TV.one, TV.isAgg, Dn.part, k_boxR, negb, at0, at1, at2, at3, at4, dT, dF, wrapR_i64, Option.bind_some, Option.map_some, hb1, hv1, c81, c83, an', ne, c70s, c70b, w1, dg, c84, k1, hb2, nk, fd, ixr, lm, c64, k2, c85, lnT, go_denK (c := l82_1) rfl, q1]
        · obtain ⟨t, t1, t2, t3, t4⟩ := guard_of h hset g1 hs1 g2 g3 hs2
          rw [← hts] at t1
          exact q6 t t1 g g1 g2 (sub_or g3 t4)
where
  gspec0 {pg : Pg} (hF : Free pg) {r c A set : Nat} (h : Brd r c) (hset : set < 2 ^ (r * c)) (h0 : openS r c set = 0) : GSpec pg r c A set := by
    intro H best hS hb hg
    have h64 := lv64 h
    have hn := h.n36
    have hb1 := ld_box (pg := pg) (R := den pg) hS.b rfl
    have hv1 := ld_box (pg := pg) (R := den pg) hS.v rfl
    have hBv : Bv r c H (.ref 0 0) := Bv.ref hS.brd
    have c81 := hBv.call81 (pg := pg) hF h
    have c83 := hBv.call83 (pg := pg) hF h hset
    have an := andN_uu (m := 2 ^ (r * c) - 1) (k := cov r c set) (by omega)
    have c70s := call70 (pg := pg) hF (x := set) (by omega) H
    have c70b := call70 (pg := pg) hF (x := best) (by omega) H
    have hps := pop_le 64 set
    have hpb := pop_le 64 best
    have an' : binI .andNot (.i .u64 ((2 ^ (r * c) - 1 : Nat) : Int)) (.i .u64 (cov r c set : Int)) = some (.i .u64 0) := by
      rw [an]
      show some (TV.i .u64 ((openS r c set : Nat) : Int)) = _
      rw [h0]; rfl
    have he := end_better h hset h0 hb hg
    by_cases hlt : pop 64 set < pop 64 best
    · rw [if_pos hlt] at he
      have dl : decide ((pop 64 set : Int) < (pop 64 best : Int)) = true := dT (by omega)
      have st := st_box (pg := pg) (R := den pg) hS.v (v := .i .u64 (set : Int)) rfl
      refine ⟨_, set, body_ofs (x := .ret) (e := []) (vs := []) (d := d82) (by rw [hF.F]; rfl) rfl ?_ (.inl rfl) rfl, hS.put, he⟩
      generalize H.set (A + 1) (.cells [.i .u64 (set : Int)] false) = H1 at *
      generalize (pop 64 set : Int) = PS at *
      generalize (pop 64 best : Int) = PB at *
      generalize ((2 ^ (r * c) - 1 : Nat) : Int) = AL at *
      generalize cov r c set = CV at *
      simp (disch := omega) [d82, c82, zipE, go_nil, go_last, go_past, go_pastR, go_blkN, go_blkR, go_blkE, go_skip, go_exit, go_ret, go_scope, go_seq, go_reg, go_regd, go_opdN, go_opd, go_opdG, grdd_b, grdd_u, stpd_some, find_some, go_block, go_cond, cnd_b, go_opsN, go_ops, go_opsG, grd_b, grd_u, stp_some, fin_some, up_some, cont_some, k_call, k_mv, k_pick, k_bin, k_eqB, k_eqA, k_not, k_neg, k_conv, k_alloc, k_boxA, k_boxI, k_boxB, k_boxN, k_boxBs, k_ldR, k_ldA, k_ldI, k_ldB, k_stA, k_stI, k_stB, ldC_some, stC_some, k_mkfn, k_slc, k_slcA, k_ixA, k_ixBs, k_ixSl, k_fadr, k_fld, k_ext, k_len, k_app, k_mn, k_mx, k_nilck, k_build, k_bsl1, k_bsl2, b_add, b_sub, b_mul, b_eql, b_neq, b_lss, b_leq, b_gtr, b_geq, Dn.setLast, Dn.getLast, evalO, mapO, Dn.get, putE, keepE_nil, keepE_cons, kp_some, kp_none, TV.one, TV.isAgg, Dn.part, k_boxR, negb, at0, at1, at2, at3, at4, dT, dF, wrapR_i64, Option.bind_some, Option.map_some, hb1, hv1, c81, c83, an', c70s, c70b, dl, st]
    · rw [if_neg hlt] at he
      have dl : decide ((pop 64 set : Int) < (pop 64 best : Int)) = false := dF (by omega)
      refine ⟨H, best, body_ofs (x := .ret) (e := [(0, .i .u64 (set : Int)), (2, .ref (A + 1) 0), (21, .b false)]) (vs := []) (d := d82) (by rw [hF.F]; rfl) rfl ?_ (.inl rfl) rfl, hS, he⟩
      generalize (pop 64 set : Int) = PS at *
      generalize (pop 64 best : Int) = PB at *
      generalize ((2 ^ (r * c) - 1 : Nat) : Int) = AL at *
      generalize cov r c set = CV at *
      simp (disch := omega) [d82, c82, zipE, go_nil, go_last, go_past, go_pastR, go_blkN, go_blkR, go_blkE, go_skip, go_exit, go_ret, go_scope, go_seq, go_reg, go_regd, go_opdN, go_opd, go_opdG, grdd_b, grdd_u, stpd_some, find_some, go_block, go_cond, cnd_b, go_opsN, go_ops, go_opsG, grd_b, grd_u, stp_some, fin_some, up_some, cont_some, k_call, k_mv, k_pick, k_bin, k_eqB, k_eqA, k_not, k_neg, k_conv, k_alloc, k_boxA, k_boxI, k_boxB, k_boxN, k_boxBs, k_ldR, k_ldA, k_ldI, k_ldB, k_stA, k_stI, k_stB, ldC_some, stC_some, k_mkfn, k_slc, k_slcA, k_ixA, k_ixBs, k_ixSl, k_fadr, k_fld, k_ext, k_len, k_app, k_mn, k_mx, k_nilck, k_build, k_bsl1, k_bsl2, b_add, b_sub, b_mul, b_eql, b_neq, b_lss, b_leq, b_gtr, b_geq, Dn.setLast, Dn.getLast, evalO, mapO, Dn.get, putE, keepE_nil, keepE_cons, kp_some, kp_none, TV.one, TV.isAgg, Dn.part, k_boxR, negb, at0, at1, at2, at3, at4, dT, dF, wrapR_i64, Option.bind_some, Option.map_some, hb1, hv1, c81, c83, an', c70s, c70b, dl]

end Go.Proofs.Tryd.Dn

/-
  Knight: Guards, and the reference's look at guards.
-/

namespace Go.Proofs.Tryd.Dn
open Go.Dn

theorem pop_full : ∀ (n k : Nat), n ≤ k → pop k (2 ^ n - 1) = n
  | 0, k, _ => by rw [show 2 ^ 0 - 1 = 0 from rfl, pop_zero]
  | n + 1, 0, h => absurd h (by omega)
  | n + 1, k + 1, h => by
    have hp := Nat.two_pow_pos n
    have h1 : (2 ^ (n + 1) - 1) % 2 = 1 := by rw [Nat.pow_succ]; omega
    have h2 : (2 ^ (n + 1) - 1) / 2 = 2 ^ n - 1 := by rw [Nat.pow_succ]; omega
    rw [pop, h1, h2, pop_full n k (by omega)]
    omega

theorem fn54_big {pg : Pg} (hF : Free pg) {r c : Nat} (h : Brd r c) (hb : 20 < r * c) : PFn pg 54 [.i .i64 (r : Int), .i .i64 (c : Int)] (.tup [.i .i64 0, .i .i64 0, .i .i64 1]) := by
  have hn := h.n36
  obtain ⟨H1, h1, h2, h3, h4⟩ := body59n (pg := pg) hF h []
  simp only [List.length_nil] at h1 h2 h3
  obtain ⟨A, hA⟩ : ∃ A, A = H1.length := ⟨_, rfl⟩
  obtain ⟨H2, hH2⟩ : ∃ H2 : Heap, H2 = H1 ++ [.cells [.ref 0 0] false] := ⟨_, rfl⟩
  have al : dkc pg (den pg) (.alloc [.nilp] false) [] H1 = some (.ref A 0, H1 ++ [.cells [.nilp] false]) := by rw [k_alloc, hA]
  have st : dkc pg (den pg) (.st 1) [.ref A 0, .ref 0 0] (H1 ++ [.cells [.nilp] false]) = some (.undef, H2) := by
    have := st_box (pg := pg) (R := den pg) (H := H1 ++ [.cells [.nilp] false]) (id := A) (u := .nilp) (ag := false) (v := .ref 0 0) (by rw [hA]; exact getLast _ _) rfl
    rw [this, hA, Dn.setLast, hH2]
  have gA : H2[A]? = some (.cells [.ref 0 0] false) := by rw [hH2, hA]; exact getLast _ _
  have g0 : H2[0]? = some (.cells (bM r c) true) := by rw [hH2, List.getElem?_append_left (by omega)]; exact h2
  have lA := ld_box (pg := pg) (R := den pg) gA rfl
  have nk : dkc pg (den pg) .nilck [.ref 0 0] H2 = some (.ref 0 0, H2) := rfl
  have fd : dkc pg (den pg) (.fadr 2 1 false) [.ref 0 0] H2 = some (.ref 0 2, H2) := by rw [k_fadr]
  have ln := ld_n (pg := pg) (R := den pg) (r := r) (c := c) (f := mvTo r c (r * c)) g0
  have dg : decide (((r * c : Nat) : Int) > 20) = true := dT (by omega)
  refine .of2 (x := .ret) (e := [(4, .i .i64 0), (5, .i .i64 0), (6, .i .i64 1)]) (H' := H2) (hF.S _ _ (by decide)) (d := d54) (by rw [hF.F]; rfl) rfl ?_ (.inl rfl) rfl (by simp) (by simp [sn_i, sn_b, sn_nil, sn8_i, sn8_b, sn8_nil, sn7_i, sn7_b, sn_sl, sn8_sl, slB_some, sn_tup, sn_agg, sn8_agg, mapO, elems])
  generalize ((r * c : Nat) : Int) = N at *
  simp (disch := omega) [d54, c54, zipE, go_nil, go_last, go_past, go_pastR, go_blkN, go_blkR, go_blkE, go_skip, go_exit, go_ret, go_scope, go_seq, go_reg, go_regd, go_opdN, go_opd, go_opdG, grdd_b, grdd_u, stpd_some, find_some, go_block, go_cond, cnd_b, go_opsN, go_ops, go_opsG, grd_b, grd_u, stp_some, fin_some, up_some, cont_some, k_call, k_mv, k_pick, k_bin, k_eqB, k_eqA, k_not, k_neg, k_conv, k_alloc, k_boxA, k_boxI, k_boxB, k_boxN, k_boxBs, k_ldR, k_ldA, k_ldI, k_ldB, k_stA, k_stI, k_stB, ldC_some, stC_some, k_mkfn, k_slc, k_slcA, k_ixA, k_ixBs, k_ixSl, k_fadr, k_fld, k_ext, k_len, k_app, k_mn, k_mx, k_nilck, k_build, k_bsl1, k_bsl2, b_add, b_sub, b_mul, b_eql, b_neq, b_lss, b_leq, b_gtr, b_geq, Dn.setLast, Dn.getLast, evalO, mapO, Dn.get, putE, keepE_nil, keepE_cons, kp_some, kp_none, TV.one, TV.isAgg, Dn.part, k_boxR, negb, at0, at1, at2, at3, at4, dT, dF, wrapR_i64, Option.bind_some, Option.map_some, sh_fn, h1, al, st, lA, nk, fd, ln, dg]

theorem fn54 {pg : Pg} (hF : Free pg) {r c : Nat} (h : Brd r c) (hb : r * c ≤ 20) : ∃ s : Nat, s < 2 ^ (r * c) ∧ gdB r c s = true ∧ Least r c (pop 64 s) ∧ PFn pg 54 [.i .i64 (r : Int), .i .i64 (c : Int)] (.tup [.i .i64 (s : Int), .i .i64 (pop 64 s : Int), .i .i64 0]) := by
  have hn := h.n36
  have h63 := lt63 h
  have hp2 := Nat.two_pow_pos (r * c)
  obtain ⟨H1, h1, h2, h3, h4⟩ := body59n (pg := pg) hF h []
  simp only [List.length_nil] at h1 h2 h3
  obtain ⟨A, hA⟩ : ∃ A, A = H1.length := ⟨_, rfl⟩
  obtain ⟨H2, hH2⟩ : ∃ H2 : Heap, H2 = H1 ++ [.cells [.ref 0 0] false] := ⟨_, rfl⟩
  have al : dkc pg (den pg) (.alloc [.nilp] false) [] H1 = some (.ref A 0, H1 ++ [.cells [.nilp] false]) := by rw [k_alloc, hA]
  have st : dkc pg (den pg) (.st 1) [.ref A 0, .ref 0 0] (H1 ++ [.cells [.nilp] false]) = some (.undef, H2) := by
    have := st_box (pg := pg) (R := den pg) (H := H1 ++ [.cells [.nilp] false]) (id := A) (u := .nilp) (ag := false) (v := .ref 0 0) (by rw [hA]; exact getLast _ _) rfl
    rw [this, hA, Dn.setLast, hH2]
  have l2 : H2.length = A + 1 := by rw [hH2, hA]; simp
  have gA : H2[A]? = some (.cells [.ref 0 0] false) := by rw [hH2, hA]; exact getLast _ _
  have g0 : H2[0]? = some (.cells (bM r c) true) := by rw [hH2, List.getElem?_append_left (by omega)]; exact h2
  have lA := ld_box (pg := pg) (R := den pg) gA rfl
  have nk : dkc pg (den pg) .nilck [.ref 0 0] H2 = some (.ref 0 0, H2) := rfl
  have fd : dkc pg (den pg) (.fadr 2 1 false) [.ref 0 0] H2 = some (.ref 0 2, H2) := by rw [k_fadr]
  have ln := ld_n (pg := pg) (R := den pg) (r := r) (c := c) (f := mvTo r c (r * c)) g0
  have dg : decide (((r * c : Nat) : Int) > 20) = false := dF (by omega)
  have c81 := (Bv.ref g0).call81 (pg := pg) hF h
  obtain ⟨H3, hH3⟩ : ∃ H3 : Heap, H3 = H2 ++ [.cells [.i .u64 ((2 ^ (r * c) - 1 : Nat) : Int)] false] := ⟨_, rfl⟩
  have l3 : H3.length = A + 2 := by rw [hH3]; simp [l2]
  have al3 : dkc pg (den pg) (.alloc [.i .u64 0] false) [] H2 = some (.ref (A + 1) 0, H2 ++ [.cells [.i .u64 0] false]) := by rw [k_alloc, l2]
  have st3 : dkc pg (den pg) (.st 1) [.ref (A + 1) 0, .i .u64 ((2 ^ (r * c) - 1 : Nat) : Int)] (H2 ++ [.cells [.i .u64 0] false]) = some (.undef, H3) := by
    have := st_box (pg := pg) (R := den pg) (H := H2 ++ [.cells [.i .u64 0] false]) (id := A + 1) (u := .i .u64 0) (ag := false) (v := .i .u64 ((2 ^ (r * c) - 1 : Nat) : Int)) (by rw [← l2]; exact getLast _ _) rfl
    rw [this, ← l2, Dn.setLast, hH3]
  obtain ⟨F, hFv⟩ : ∃ F, F = TV.fn 82 [] [.ref A 0, .ref (A + 1) 0, .ref (A + 2) 0] := ⟨_, rfl⟩
  obtain ⟨H4, hH4⟩ : ∃ H4 : Heap, H4 = H3 ++ [.cells [F] false] := ⟨_, rfl⟩
  have al4 : dkc pg (den pg) (.alloc [.nilfn] false) [] H3 = some (.ref (A + 2) 0, H3 ++ [.cells [.nilfn] false]) := by rw [k_alloc, l3]
  have mk4 : ∀ K : Heap, dkc pg (den pg) (.mkfn 82 0) [.ref A 0, .ref (A + 1) 0, .ref (A + 2) 0] K = some (F, K) := fun K => by rw [hFv]; rfl
  have st4 : dkc pg (den pg) (.st 1) [.ref (A + 2) 0, F] (H3 ++ [.cells [.nilfn] false]) = some (.undef, H4) := by
    have := st_box (pg := pg) (R := den pg) (H := H3 ++ [.cells [.nilfn] false]) (id := A + 2) (u := .nilfn) (ag := false) (v := F) (by rw [← l3]; exact getLast _ _) (by rw [hFv]; rfl)
    rw [this, ← l3, Dn.setLast, hH4]
  have hS : GdS r c A (2 ^ (r * c) - 1) H4 := by
    refine ⟨by omega, ?_, ?_, ?_, ?_⟩
    · rw [hH4, List.getElem?_append_left (by omega), hH3, List.getElem?_append_left (by omega)]; exact g0
    · rw [hH4, List.getElem?_append_left (by omega), hH3, List.getElem?_append_left (by omega)]; exact gA
    · rw [hH4, List.getElem?_append_left (by omega), hH3, ← l2]; exact getLast _ _
    · rw [← hFv, hH4, ← l3]; exact getLast _ _
  obtain ⟨H5, s, r1, r2, r3⟩ := gspec (pg := pg) hF (A := A) h (r * c) 0 hp2 (by omega) H4 _ hS (by omega) (gd_all h)
  simp only [Int.natCast_zero] at r1
  have lF := ld_box (pg := pg) (R := den pg) hS.f rfl
  rw [← hFv] at lF
  have rr : callRun pg (den pg) .sh [F, .i .u64 0] H4 = some (.tup [], H5) := by rw [hFv, sh_fn]; exact r1
  have lv := ld_box (pg := pg) (R := den pg) r2.v rfl
  have hs := r3.lt
  have ws : wrapR .i64 (s : Int) = .i .i64 (s : Int) := wrapR_i64 (by omega)
  have c70 := call70 (pg := pg) hF (x := s) (by omega) H5
  refine ⟨s, hs, r3.gd, ⟨⟨s, hs, r3.gd, rfl⟩, fun g g1 g2 => r3.all g g1 g2 fun i hi => by rw [Nat.zero_testBit] at hi; cases hi⟩, ?_⟩
  refine .of2 (x := .ret) (e := [(4, .i .i64 (s : Int)), (5, .i .i64 (pop 64 s : Int)), (6, .i .i64 0)]) (H' := H5) (hF.S _ _ (by decide)) (d := d54) (by rw [hF.F]; rfl) rfl ?_ (.inl rfl) rfl (by simp) (by simp [sn_i, sn_b, sn_nil, sn8_i, sn8_b, sn8_nil, sn7_i, sn7_b, sn_sl, sn8_sl, slB_some, sn_tup, sn_agg, sn8_agg, mapO, elems])
  generalize (pop 64 s : Int) = PS at *
  generalize ((2 ^ (r * c) - 1 : Nat) : Int) = AL at *
  generalize ((r * c : Nat) : Int) = N at *
  simp (disch := omega) [d54, c54, zipE, go_nil, go_last, go_past, go_pastR, go_blkN, go_blkR, go_blkE, go_skip, go_exit, go_ret, go_scope, go_seq, go_reg, go_regd, go_opdN, go_opd, go_opdG, grdd_b, grdd_u, stpd_some, find_some, go_block, go_cond, cnd_b, go_opsN, go_ops, go_opsG, grd_b, grd_u, stp_some, fin_some, up_some, cont_some, k_call, k_mv, k_pick, k_bin, k_eqB, k_eqA, k_not, k_neg, k_conv, k_alloc, k_boxA, k_boxI, k_boxB, k_boxN, k_boxBs, k_ldR, k_ldA, k_ldI, k_ldB, k_stA, k_stI, k_stB, ldC_some, stC_some, k_mkfn, k_slc, k_slcA, k_ixA, k_ixBs, k_ixSl, k_fadr, k_fld, k_ext, k_len, k_app, k_mn, k_mx, k_nilck, k_build, k_bsl1, k_bsl2, b_add, b_sub, b_mul, b_eql, b_neq, b_lss, b_leq, b_gtr, b_geq, Dn.setLast, Dn.getLast, evalO, mapO, Dn.get, putE, keepE_nil, keepE_cons, kp_some, kp_none, TV.one, TV.isAgg, Dn.part, k_boxR, negb, at0, at1, at2, at3, at4, dT, dF, wrapR_i64, Option.bind_some, Option.map_some, sh_fn, h1, al, st, lA, nk, fd, ln, dg, c81, al3, st3, al4, mk4, st4, lF, rr, lv, ws, c70]

theorem fn55 {pg : Pg} (hF : Free pg) {r c x : Nat} (h : Brd r c) (hx : x < 2 ^ (r * c)) : PFn pg 55 [.i .i64 (r : Int), .i .i64 (c : Int), .i .i64 (x : Int)] (.b (gdB r c x)) := by
  have hn := h.n36
  have h63 := lt63 h
  obtain ⟨hcast, wn⟩ := rc_facts h
  have har := around_lt h hx
  have c67 := call67 (pg := pg) hF h hx []
  have orr := or_ii (m := around r c x) (k := x) (by omega) (by omega)
  have sh := Dn.shl_i (k := .i64) (c := r * c) (by omega)
  have hp := Nat.two_pow_pos (r * c)
  rw [Nat.or_comm, show x ||| around r c x = cov r c x from rfl] at orr
  have hcv := cov_lt h hx
  have ws : wrapR .i64 (((2 ^ (r * c) : Nat) : Int) - 1) = .i .i64 ((2 ^ (r * c) - 1 : Nat) : Int) := by rw [show ((2 ^ (r * c) : Nat) : Int) - 1 = ((2 ^ (r * c) - 1 : Nat) : Int) by omega]; exact wrapR_i64 (by omega)
  have he : ((((cov r c x : Nat) : Int) == ((2 ^ (r * c) - 1 : Nat) : Int)) : Bool) = gdB r c x := by
    unfold gdB
    by_cases h0 : cov r c x = 2 ^ (r * c) - 1
    · rw [dT h0, beqT (by rw [h0])]
    · rw [dF h0, beqF (by omega)]
  refine .inr ⟨hF.S _ _ (by decide), .b (gdB r c x), [], body_of (x := .ret) (e := [(6, .b (gdB r c x))]) (d := d55) (by rw [hF.F]; rfl) rfl ?_ (.inl rfl) rfl, sn_b _ _ _⟩
  rw [← he]
  generalize ((2 ^ (r * c) - 1 : Nat) : Int) = AL at *
  rw [hcast] at sh
  generalize ((2 ^ (r * c) : Nat) : Int) = P2 at *
  generalize (cov r c x : Int) = CV at *
  simp (disch := omega) [d55, c55, zipE, go_nil, go_last, go_past, go_pastR, go_blkN, go_blkR, go_blkE, go_skip, go_exit, go_ret, go_scope, go_seq, go_reg, go_regd, go_opdN, go_opd, go_opdG, grdd_b, grdd_u, stpd_some, find_some, go_block, go_cond, cnd_b, go_opsN, go_ops, go_opsG, grd_b, grd_u, stp_some, fin_some, up_some, cont_some, k_call, k_mv, k_pick, k_bin, k_eqB, k_eqA, k_not, k_neg, k_conv, k_alloc, k_boxA, k_boxI, k_boxB, k_boxN, k_boxBs, k_ldR, k_ldA, k_ldI, k_ldB, k_stA, k_stI, k_stB, ldC_some, stC_some, k_mkfn, k_slc, k_slcA, k_ixA, k_ixBs, k_ixSl, k_fadr, k_fld, k_ext, k_len, k_app, k_mn, k_mx, k_nilck, k_build, k_bsl1, k_bsl2, b_add, b_sub, b_mul, b_eql, b_neq, b_lss, b_leq, b_gtr, b_geq, Dn.setLast, Dn.getLast, evalO, mapO, Dn.get, putE, keepE_nil, keepE_cons, kp_some, kp_none, TV.one, TV.isAgg, Dn.part, k_boxR, negb, at0, at1, at2, at3, at4, dT, dF, wrapR_i64, Option.bind_some, Option.map_some, c67, orr, sh, ws, wn]

end Go.Proofs.Tryd.Dn

