/-
  Knight: a short list sorted by a function: it keeps its members.
-/
import Derived.Test.YtdjbpmgbaggfbaaDoorKfa
import Derived.Test.YtdjbpmgbaggfbaaDoorKfc
set_option linter.unusedSimpArgs false
set_option linter.unusedVariables false

namespace Go.Proofs.Tryd.Dn
open Go.Dn

theorem ownI {pg : Pg} {R : Rec} {H : Heap} {t : TV} {l : List Int} (h : elI.Own H t l) {i : Nat} {x : Int} (hx : l[i]? = some x) :
    ∃ id o, t.idOf = some id ∧ dkc pg R (.ixS 1 false) [t, .i .i64 (i : Int)] H = some (.ref id o, H) ∧ ldC H[id]? 1 false o H = some (.i .i64 x, H) ∧
      ∀ v : Int, ∃ H', stC H[id]? 1 id o [.i .i64 v] H = some (.undef, H') ∧ elI.Own H' t (l.set i v) ∧ H'.length = H.length ∧ ∀ j, t.idOf ≠ some j → H'[j]? = H[j]? := by
  have hi := (List.getElem?_eq_some_iff.1 hx).1
  obtain ⟨p, p1, p2, p3⟩ := h.view.ix (pg := pg) (R := R) hx .i64
  have hl := p2.ld (pg := pg) (R := R)
  have hid : ∃ id, t.idOf = some id := by
    rcases h with ⟨rfl, rfl⟩ | ⟨_, id, ag, c, rfl, _⟩
    · simp at hx
    · exact ⟨id, rfl⟩
  obtain ⟨id, hid⟩ := hid
  have hp : ∃ o, p = .ref id o := by
    rcases h with ⟨rfl, rfl⟩ | ⟨_, id', ag, c, rfl, _⟩
    · simp at hx
    · have h3 : id' = id := by simpa [TV.idOf] using hid
      subst h3
      have := k_ixSl (pg := pg) (R := R) 1 false false id' 0 l.length none .i64 (i : Int) H (by omega) (by simpa using hi)
      have h4 : dkc pg R (.ixS 1 false) [.sl id' 0 1 false l.length none, .i .i64 (i : Int)] H = some (p, H) := p1
      rw [this] at h4
      simp at h4
      exact ⟨_, h4.symm⟩
  obtain ⟨o, rfl⟩ := hp
  refine ⟨id, o, hid, p1, ?_, fun v => ?_⟩
  · rw [← k_ldR (pg := pg) (R := R)]; exact hl
  · obtain ⟨q, H', s0, s1, s2, s3, s4⟩ := ownSet (pg := pg) (R := R) h hi v
    have hq : q = .ref id o := by
      have h1 : dkc pg R (.ixS 1 false) [t, .i .i64 (i : Int)] H = some (.ref id o, H) := p1
      rw [h1] at s0
      simpa using s0.symm
    subst hq
    refine ⟨H', ?_, s2, s3, s4⟩
    rw [← k_stI (pg := pg) (R := R)]; exact s1

def CmpOk (pg : Pg) (F t : TV) (H0 : Heap) (ok : Int → Prop) : Prop :=
  ∀ H, H.length = H0.length → (∀ j, t.idOf ≠ some j → H[j]? = H0[j]?) → ∀ x y, ok x → ok y → ∃ v, callRun pg (den pg) .sh [F, .i .i64 x, .i .i64 y] H = some (.i .i64 v, H)

theorem l100_1_all {pg : Pg} {F t B I : TV} {H0 : Heap} {ok : Int → Prop} (hc : CmpOk pg F t H0 ok) {n : Nat} (hn : n ≤ 1000) : ∀ (j : Nat) (l : List Int) (H : Heap), j < n → l.length = n → elI.Own H t l → H.length = H0.length → (∀ i, t.idOf ≠ some i → H[i]? = H0[i]?) → (∀ x, x ∈ l → ok x) →
    ∃ l' e H', List.Perm l' l ∧ elI.Own H' t l' ∧ H'.length = H0.length ∧ (∀ i, t.idOf ≠ some i → H'[i]? = H0[i]?) ∧ den pg l100_1 [(0, t), (1, .i .i64 0), (2, B), (3, F), (8, I), (9, .i .i64 (j : Int))] H = some ⟨.exit 2, e, H'⟩ ∧ keepE [0, 1, 2, 3, 8] e = [(0, t), (1, .i .i64 0), (2, B), (3, F), (8, I)]
  | 0, l, H, hj, hl, hO, hH, hf, hok => by
    refine ⟨l, _, H, List.Perm.refl _, hO, hH, hf, by
      rw [l100_1, den_loop]
      simp (disch := omega) [b100_0, go_nil, go_last, go_past, go_pastR, go_blkN, go_blkR, go_blkE, go_skip, go_exit, go_ret, go_scope, go_seq, go_reg, go_regd, go_opdN, go_opd, go_opdG, grdd_b, grdd_u, stpd_some, find_some, go_block, go_cond, cnd_b, go_opsN, go_ops, go_opsG, grd_b, grd_u, stp_some, fin_some, up_some, cont_some, k_call, k_mv, k_pick, k_bin, k_eqB, k_eqA, k_not, k_neg, k_conv, k_alloc, k_boxA, k_boxI, k_boxB, k_boxN, k_boxBs, k_ldR, k_ldA, k_ldI, k_ldB, k_stA, k_stI, k_stB, ldC_some, stC_some, k_mkfn, k_slc, k_slcA, k_ixA, k_ixBs, k_ixSl, k_fadr, k_fld, k_ext, k_len, k_app, k_mn, k_mx, k_nilck, k_build, k_bsl1, k_bsl2, b_add, b_sub, b_mul, b_eql, b_neq, b_lss, b_leq, b_gtr, b_geq, Dn.setLast, Dn.getLast, evalO, mapO, Dn.get, putE, keepE_nil, keepE_cons, kp_some, kp_none, TV.one, TV.isAgg, Dn.part, k_boxR, negb, at0, at1, at2, at3, at4, dT, dF, wrapR_i64, Option.bind_some, Option.map_some]
      rfl, rfl⟩
  | j + 1, l, H, hj, hl, hO, hH, hf, hok => by
    have hx : l[j + 1]? = some l[j + 1] := List.getElem?_eq_getElem (by omega)
    have hy : l[j]? = some l[j] := List.getElem?_eq_getElem (by omega)
    have hxm := hok _ (List.getElem_mem (show j + 1 < l.length by omega))
    have hym := hok _ (List.getElem_mem (show j < l.length by omega))
    have hperm := @List.set_set_perm Int l (j + 1) j (by omega) (by omega)
    generalize l[j + 1] = x at *
    generalize l[j] = y at *
    obtain ⟨v, cv⟩ := hc H hH hf x y hxm hym
    obtain ⟨xi, xo, x0, x1, x2, x3⟩ := ownI (pg := pg) (R := den pg) hO hx
    obtain ⟨yi, yo, y0, y1, y2, y3⟩ := ownI (pg := pg) (R := den pg) hO hy
    have wk : wrapR .i64 (((j + 1 : Nat) : Int) - 1) = .i .i64 (j : Int) := by rw [show ((j + 1 : Nat) : Int) - 1 = (j : Int) by omega]; exact wrapR_i64 (by omega)
    have hgt : decide ((0 : Int) < ((j + 1 : Nat) : Int)) = true := dT (by omega)
    by_cases hv : v < 0
    · obtain ⟨H1, s1, s2, s3, s4⟩ := x3 y
      obtain ⟨zi, zo, z0, z1, z2, z3⟩ := ownI (pg := pg) (R := den pg) s2 (i := j) (x := y) (by rw [List.getElem?_set_ne (by omega)]; exact hy)
      obtain ⟨H2, t1, t2, t3, t4⟩ := z3 x
      obtain ⟨l', e, H', p1, p2, p3, p4, p5, p6⟩ := l100_1_all hc hn (B := B) (I := I) j _ H2 (by omega) (by simpa using hl) t2 (by omega) (fun i hi => by rw [t4 i hi, s4 i hi, hf i hi]) (fun z hz => hok z (hperm.mem_iff.1 hz))
      refine ⟨l', e, H', p1.trans hperm, p2, p3, p4, Eq.trans ?_ p5, p6⟩
      generalize ((j + 1 : Nat) : Int) = J1 at *
      rw [l100_1, den_loop]
      simp (disch := omega) [l100_1, b100_0, go_nil, go_last, go_past, go_pastR, go_blkN, go_blkR, go_blkE, go_skip, go_exit, go_ret, go_scope, go_seq, go_reg, go_regd, go_opdN, go_opd, go_opdG, grdd_b, grdd_u, stpd_some, find_some, go_block, go_cond, cnd_b, go_opsN, go_ops, go_opsG, grd_b, grd_u, stp_some, fin_some, up_some, cont_some, k_call, k_mv, k_pick, k_bin, k_eqB, k_eqA, k_not, k_neg, k_conv, k_alloc, k_boxA, k_boxI, k_boxB, k_boxN, k_boxBs, k_ldR, k_ldA, k_ldI, k_ldB, k_stA, k_stI, k_stB, ldC_some, stC_some, k_mkfn, k_slc, k_slcA, k_ixA, k_ixBs, k_ixSl, k_fadr, k_fld, k_ext, k_len, k_app, k_mn, k_mx, k_nilck, k_build, k_bsl1, k_bsl2, b_add, b_sub, b_mul, b_eql, b_neq, b_lss, b_leq, b_gtr, b_geq, Dn.setLast, Dn.getLast, evalO, mapO, Dn.get, putE, keepE_nil, keepE_cons, kp_some, kp_none, TV.one, TV.isAgg, Dn.part, k_boxR, negb, at0, at1, at2, at3, at4, dT, dF, wrapR_i64, Option.bind_some, Option.map_some, hgt, x1, x2, wk, y1, y2, cv, hv, s1, z1, t1]
    · have key : ∀ J1 : Int, dkc pg (den pg) (.ixS 1 false) [t, .i .i64 J1] H = some (.ref xi xo, H) → wrapR .i64 (J1 - 1) = .i .i64 (j : Int) → decide ((0 : Int) < J1) = true → ∃ e, den pg l100_1 [(0, t), (1, .i .i64 0), (2, B), (3, F), (8, I), (9, .i .i64 J1)] H = some ⟨.exit 2, e, H⟩ ∧ keepE [0, 1, 2, 3, 8] e = [(0, t), (1, .i .i64 0), (2, B), (3, F), (8, I)] := by
        intro J1 x1 wk hgt
        refine ⟨_, by
          rw [l100_1, den_loop]
          simp (disch := omega) [b100_0, go_nil, go_last, go_past, go_pastR, go_blkN, go_blkR, go_blkE, go_skip, go_exit, go_ret, go_scope, go_seq, go_reg, go_regd, go_opdN, go_opd, go_opdG, grdd_b, grdd_u, stpd_some, find_some, go_block, go_cond, cnd_b, go_opsN, go_ops, go_opsG, grd_b, grd_u, stp_some, fin_some, up_some, cont_some, k_call, k_mv, k_pick, k_bin, k_eqB, k_eqA, k_not, k_neg, k_conv, k_alloc, k_boxA, k_boxI, k_boxB, k_boxN, k_boxBs, k_ldR, k_ldA, k_ldI, k_ldB, k_stA, k_stI, k_stB, ldC_some, stC_some, k_mkfn, k_slc, k_slcA, k_ixA, k_ixBs, k_ixSl, k_fadr, k_fld, k_ext, k_len, k_app, k_mn, k_mx, k_nilck, k_build, k_bsl1, k_bsl2, b_add, b_sub, b_mul, b_eql, b_neq, b_lss, b_leq, b_gtr, b_geq, Dn.setLast, Dn.getLast, evalO, mapO, Dn.get, putE, keepE_nil, keepE_cons, kp_some, kp_none, TV.one, TV.isAgg, Dn.part, k_boxR, negb, at0, at1, at2, at3, at4, dT, dF, wrapR_i64, Option.bind_some, Option.map_some, hgt, x1, x2, wk, y1, y2, cv, hv]
          rfl, rfl⟩
      obtain ⟨e, k1, k2⟩ := key _ x1 wk hgt
      exact ⟨l, e, H, List.Perm.refl _, hO, hH, hf, k1, k2⟩

theorem l100_3_all {pg : Pg} {F t : TV} {H0 : Heap} {ok : Int → Prop} (hc : CmpOk pg F t H0 ok) {n : Nat} (hn : n ≤ 1000) : ∀ (d i : Nat) (l : List Int) (H : Heap), i + d = n → l.length = n → elI.Own H t l → H.length = H0.length → (∀ i, t.idOf ≠ some i → H[i]? = H0[i]?) → (∀ x, x ∈ l → ok x) →
    ∃ l' e H', List.Perm l' l ∧ elI.Own H' t l' ∧ H'.length = H0.length ∧ (∀ i, t.idOf ≠ some i → H'[i]? = H0[i]?) ∧ den pg l100_3 [(0, t), (1, .i .i64 0), (2, .i .i64 (n : Int)), (3, F), (8, .i .i64 (i : Int))] H = some ⟨.exit 0, e, H'⟩
  | 0, i, l, H, hd, hl, hO, hH, hf, hok => by
    obtain rfl : i = n := by omega
    exact ⟨l, _, H, List.Perm.refl _, hO, hH, hf, by
      rw [l100_3, den_loop]
      simp (disch := omega) [b100_2, go_nil, go_last, go_past, go_pastR, go_blkN, go_blkR, go_blkE, go_skip, go_exit, go_ret, go_scope, go_seq, go_reg, go_regd, go_opdN, go_opd, go_opdG, grdd_b, grdd_u, stpd_some, find_some, go_block, go_cond, cnd_b, go_opsN, go_ops, go_opsG, grd_b, grd_u, stp_some, fin_some, up_some, cont_some, k_call, k_mv, k_pick, k_bin, k_eqB, k_eqA, k_not, k_neg, k_conv, k_alloc, k_boxA, k_boxI, k_boxB, k_boxN, k_boxBs, k_ldR, k_ldA, k_ldI, k_ldB, k_stA, k_stI, k_stB, ldC_some, stC_some, k_mkfn, k_slc, k_slcA, k_ixA, k_ixBs, k_ixSl, k_fadr, k_fld, k_ext, k_len, k_app, k_mn, k_mx, k_nilck, k_build, k_bsl1, k_bsl2, b_add, b_sub, b_mul, b_eql, b_neq, b_lss, b_leq, b_gtr, b_geq, Dn.setLast, Dn.getLast, evalO, mapO, Dn.get, putE, keepE_nil, keepE_cons, kp_some, kp_none, TV.one, TV.isAgg, Dn.part, k_boxR, negb, at0, at1, at2, at3, at4, dT, dF, wrapR_i64, Option.bind_some, Option.map_some]
      rfl⟩
  | d + 1, i, l, H, hd, hl, hO, hH, hf, hok => by
    obtain ⟨l1, e1, H1, p1, p2, p3, p4, p5, p6⟩ := l100_1_all hc hn (B := .i .i64 (n : Int)) (I := .i .i64 (i : Int)) i l H (by omega) hl hO hH hf hok
    have g0 := keep_get p6 (s := 0) (by simp) rfl
    have g1 := keep_get p6 (s := 1) (by simp) rfl
    have g2 := keep_get p6 (s := 2) (by simp) rfl
    have g3 := keep_get p6 (s := 3) (by simp) rfl
    have g8 := keep_get p6 (s := 8) (by simp) rfl
    obtain ⟨l2, e2, H2, q1, q2, q3, q4, q5⟩ := l100_3_all hc hn d (i + 1) l1 H1 (by omega) (by rw [p1.length_eq]; exact hl) p2 p3 p4 (fun x hx => hok x (p1.mem_iff.1 hx))
    refine ⟨l2, e2, H2, q1.trans p1, q2, q3, q4, Eq.trans ?_ q5⟩
    rw [l100_3, den_loop]
    simp (disch := omega) [l100_3, b100_2, go_nil, go_last, go_past, go_pastR, go_blkN, go_blkR, go_blkE, go_skip, go_exit, go_ret, go_scope, go_seq, go_reg, go_regd, go_opdN, go_opd, go_opdG, grdd_b, grdd_u, stpd_some, find_some, go_block, go_cond, cnd_b, go_opsN, go_ops, go_opsG, grd_b, grd_u, stp_some, fin_some, up_some, cont_some, k_call, k_mv, k_pick, k_bin, k_eqB, k_eqA, k_not, k_neg, k_conv, k_alloc, k_boxA, k_boxI, k_boxB, k_boxN, k_boxBs, k_ldR, k_ldA, k_ldI, k_ldB, k_stA, k_stI, k_stB, ldC_some, stC_some, k_mkfn, k_slc, k_slcA, k_ixA, k_ixBs, k_ixSl, k_fadr, k_fld, k_ext, k_len, k_app, k_mn, k_mx, k_nilck, k_build, k_bsl1, k_bsl2, b_add, b_sub, b_mul, b_eql, b_neq, b_lss, b_leq, b_gtr, b_geq, Dn.setLast, Dn.getLast, evalO, mapO, Dn.get, putE, keepE_nil, keepE_cons, kp_some, kp_none, TV.one, TV.isAgg, Dn.part, k_boxR, negb, at0, at1, at2, at3, at4, dT, dF, wrapR_i64, Option.bind_some, Option.map_some, go_denK (c := l100_1) rfl, p5, g0, g1, g2, g3, g8]

theorem body91 {pg : Pg} (hF : Free pg) {F t : TV} {l : List Int} {H : Heap} (hc : CmpOk pg F t H fun x => x ∈ l) (hO : elI.Own H t l) (hl : l.length < 20) :
    ∃ l' H', bodyRun pg (den pg) 91 [t, F] H = some (.tup [], H') ∧ List.Perm l' l ∧ elI.Own H' t l' ∧ H'.length = H.length ∧ ∀ i, t.idOf ≠ some i → H'[i]? = H[i]? := by
  have hlen := fun K => hO.view.lenK K
  -- the insertion
  have b100 : ∃ l' H', bodyRun pg (den pg) 100 [t, .i .i64 0, .i .i64 (l.length : Int), F] H = some (.tup [], H') ∧ List.Perm l' l ∧ elI.Own H' t l' ∧ H'.length = H.length ∧ ∀ i, t.idOf ≠ some i → H'[i]? = H[i]? := by
    by_cases h1 : 1 ≤ l.length
    · obtain ⟨l', e, H', p1, p2, p3, p4, p5⟩ := l100_3_all (n := l.length) hc (by omega) (l.length - 1) 1 l H (by omega) rfl hO rfl (fun _ _ => rfl) (fun x hx => hx)
      refine ⟨l', H', body_ofs (x := .normal) (e := e) (vs := []) (d := d100) (by rw [hF.F]; rfl) rfl ?_ (.inr rfl) rfl, p1, p2, p3, p4⟩
      simp only [Int.natCast_one] at p5
      simp (disch := omega) [d100, c100, zipE, go_nil, go_last, go_past, go_pastR, go_blkN, go_blkR, go_blkE, go_skip, go_exit, go_ret, go_scope, go_seq, go_reg, go_regd, go_opdN, go_opd, go_opdG, grdd_b, grdd_u, stpd_some, find_some, go_block, go_cond, cnd_b, go_opsN, go_ops, go_opsG, grd_b, grd_u, stp_some, fin_some, up_some, cont_some, k_call, k_mv, k_pick, k_bin, k_eqB, k_eqA, k_not, k_neg, k_conv, k_alloc, k_boxA, k_boxI, k_boxB, k_boxN, k_boxBs, k_ldR, k_ldA, k_ldI, k_ldB, k_stA, k_stI, k_stB, ldC_some, stC_some, k_mkfn, k_slc, k_slcA, k_ixA, k_ixBs, k_ixSl, k_fadr, k_fld, k_ext, k_len, k_app, k_mn, k_mx, k_nilck, k_build, k_bsl1, k_bsl2, b_add, b_sub, b_mul, b_eql, b_neq, b_lss, b_leq, b_gtr, b_geq, Dn.setLast, Dn.getLast, evalO, mapO, Dn.get, putE, keepE_nil, keepE_cons, kp_some, kp_none, TV.one, TV.isAgg, Dn.part, k_boxR, negb, at0, at1, at2, at3, at4, dT, dF, wrapR_i64, Option.bind_some, Option.map_some, go_denK (c := l100_3) rfl, p5]
    · have h0 : l.length = 0 := by omega
      refine ⟨l, H, body_ofs (x := .normal) (e := [(0, t), (1, .i .i64 0), (2, .i .i64 0), (3, F), (8, .i .i64 1), (14, .b false)]) (vs := []) (d := d100) (by rw [hF.F]; rfl) rfl ?_ (.inr rfl) rfl, List.Perm.refl _, hO, rfl, fun _ _ => rfl⟩
      have hr : den pg l100_3 [(0, t), (1, .i .i64 0), (2, .i .i64 0), (3, F), (8, .i .i64 1)] H = some ⟨.exit 0, [(0, t), (1, .i .i64 0), (2, .i .i64 0), (3, F), (8, .i .i64 1), (14, .b false)], H⟩ := by
        rw [l100_3, den_loop]
        simp (disch := omega) [b100_2, go_nil, go_last, go_past, go_pastR, go_blkN, go_blkR, go_blkE, go_skip, go_exit, go_ret, go_scope, go_seq, go_reg, go_regd, go_opdN, go_opd, go_opdG, grdd_b, grdd_u, stpd_some, find_some, go_block, go_cond, cnd_b, go_opsN, go_ops, go_opsG, grd_b, grd_u, stp_some, fin_some, up_some, cont_some, k_call, k_mv, k_pick, k_bin, k_eqB, k_eqA, k_not, k_neg, k_conv, k_alloc, k_boxA, k_boxI, k_boxB, k_boxN, k_boxBs, k_ldR, k_ldA, k_ldI, k_ldB, k_stA, k_stI, k_stB, ldC_some, stC_some, k_mkfn, k_slc, k_slcA, k_ixA, k_ixBs, k_ixSl, k_fadr, k_fld, k_ext, k_len, k_app, k_mn, k_mx, k_nilck, k_build, k_bsl1, k_bsl2, b_add, b_sub, b_mul, b_eql, b_neq, b_lss, b_leq, b_gtr, b_geq, Dn.setLast, Dn.getLast, evalO, mapO, Dn.get, putE, keepE_nil, keepE_cons, kp_some, kp_none, TV.one, TV.isAgg, Dn.part, k_boxR, negb, at0, at1, at2, at3, at4, dT, dF, wrapR_i64, Option.bind_some, Option.map_some]
      rw [h0]
      simp (disch := omega) [d100, c100, zipE, go_nil, go_last, go_past, go_pastR, go_blkN, go_blkR, go_blkE, go_skip, go_exit, go_ret, go_scope, go_seq, go_reg, go_regd, go_opdN, go_opd, go_opdG, grdd_b, grdd_u, stpd_some, find_some, go_block, go_cond, cnd_b, go_opsN, go_ops, go_opsG, grd_b, grd_u, stp_some, fin_some, up_some, cont_some, k_call, k_mv, k_pick, k_bin, k_eqB, k_eqA, k_not, k_neg, k_conv, k_alloc, k_boxA, k_boxI, k_boxB, k_boxN, k_boxBs, k_ldR, k_ldA, k_ldI, k_ldB, k_stA, k_stI, k_stB, ldC_some, stC_some, k_mkfn, k_slc, k_slcA, k_ixA, k_ixBs, k_ixSl, k_fadr, k_fld, k_ext, k_len, k_app, k_mn, k_mx, k_nilck, k_build, k_bsl1, k_bsl2, b_add, b_sub, b_mul, b_eql, b_neq, b_lss, b_leq, b_gtr, b_geq, Dn.setLast, Dn.getLast, evalO, mapO, Dn.get, putE, keepE_nil, keepE_cons, kp_some, kp_none, TV.one, TV.isAgg, Dn.part, k_boxR, negb, at0, at1, at2, at3, at4, dT, dF, wrapR_i64, Option.bind_some, Option.map_some, go_denK (c := l100_3) rfl, hr]
  obtain ⟨l', H', b1, b2, b3, b4, b5⟩ := b100
  have b1' : callRun pg (den pg) .sh [.fn 100 [] [], t, .i .i64 0, .i .i64 (l.length : Int), F] H = some (.tup [], H') := by rw [sh_fn]; exact b1
  refine ⟨l', H', ?_, b2, b3, b4, b5⟩
  have r1 : den pg l99_1 [(0, t), (1, .i .i64 (l.length : Int)), (2, F), (6, .i .i64 20), (7, .i .i64 0), (8, .i .i64 20)] H = some ⟨.exit 0, [(0, t), (1, .i .i64 (l.length : Int)), (2, F), (6, .i .i64 20), (7, .i .i64 0), (8, .i .i64 20), (13, .b false)], H⟩ := by
    rw [l99_1, den_loop]
    simp (disch := omega) [b99_0, go_nil, go_last, go_past, go_pastR, go_blkN, go_blkR, go_blkE, go_skip, go_exit, go_ret, go_scope, go_seq, go_reg, go_regd, go_opdN, go_opd, go_opdG, grdd_b, grdd_u, stpd_some, find_some, go_block, go_cond, cnd_b, go_opsN, go_ops, go_opsG, grd_b, grd_u, stp_some, fin_some, up_some, cont_some, k_call, k_mv, k_pick, k_bin, k_eqB, k_eqA, k_not, k_neg, k_conv, k_alloc, k_boxA, k_boxI, k_boxB, k_boxN, k_boxBs, k_ldR, k_ldA, k_ldI, k_ldB, k_stA, k_stI, k_stB, ldC_some, stC_some, k_mkfn, k_slc, k_slcA, k_ixA, k_ixBs, k_ixSl, k_fadr, k_fld, k_ext, k_len, k_app, k_mn, k_mx, k_nilck, k_build, k_bsl1, k_bsl2, b_add, b_sub, b_mul, b_eql, b_neq, b_lss, b_leq, b_gtr, b_geq, Dn.setLast, Dn.getLast, evalO, mapO, Dn.get, putE, keepE_nil, keepE_cons, kp_some, kp_none, TV.one, TV.isAgg, Dn.part, k_boxR, negb, at0, at1, at2, at3, at4, dT, dF, wrapR_i64, Option.bind_some, Option.map_some]
  have r2 : den pg l99_5 [(0, t), (1, .i .i64 (l.length : Int)), (2, F), (6, .i .i64 20)] H' = some ⟨.exit 2, [(0, t), (1, .i .i64 (l.length : Int)), (2, F), (6, .i .i64 20), (30, .b false)], H'⟩ := by
    rw [l99_5, den_loop]
    simp (disch := omega) [b99_4, go_nil, go_last, go_past, go_pastR, go_blkN, go_blkR, go_blkE, go_skip, go_exit, go_ret, go_scope, go_seq, go_reg, go_regd, go_opdN, go_opd, go_opdG, grdd_b, grdd_u, stpd_some, find_some, go_block, go_cond, cnd_b, go_opsN, go_ops, go_opsG, grd_b, grd_u, stp_some, fin_some, up_some, cont_some, k_call, k_mv, k_pick, k_bin, k_eqB, k_eqA, k_not, k_neg, k_conv, k_alloc, k_boxA, k_boxI, k_boxB, k_boxN, k_boxBs, k_ldR, k_ldA, k_ldI, k_ldB, k_stA, k_stI, k_stB, ldC_some, stC_some, k_mkfn, k_slc, k_slcA, k_ixA, k_ixBs, k_ixSl, k_fadr, k_fld, k_ext, k_len, k_app, k_mn, k_mx, k_nilck, k_build, k_bsl1, k_bsl2, b_add, b_sub, b_mul, b_eql, b_neq, b_lss, b_leq, b_gtr, b_geq, Dn.setLast, Dn.getLast, evalO, mapO, Dn.get, putE, keepE_nil, keepE_cons, kp_some, kp_none, TV.one, TV.isAgg, Dn.part, k_boxR, negb, at0, at1, at2, at3, at4, dT, dF, wrapR_i64, Option.bind_some, Option.map_some]
  have b99 : bodyRun pg (den pg) 99 [t, .i .i64 (l.length : Int), F] H = some (.tup [], H') := by
    refine body_ofs (x := .normal) (e := [(0, t), (1, .i .i64 (l.length : Int)), (2, F), (6, .i .i64 20), (30, .b false)]) (vs := []) (d := d99) (by rw [hF.F]; rfl) rfl ?_ (.inr rfl) rfl
    simp (disch := omega) [d99, c99, zipE, go_nil, go_last, go_past, go_pastR, go_blkN, go_blkR, go_blkE, go_skip, go_exit, go_ret, go_scope, go_seq, go_reg, go_regd, go_opdN, go_opd, go_opdG, grdd_b, grdd_u, stpd_some, find_some, go_block, go_cond, cnd_b, go_opsN, go_ops, go_opsG, grd_b, grd_u, stp_some, fin_some, up_some, cont_some, k_call, k_mv, k_pick, k_bin, k_eqB, k_eqA, k_not, k_neg, k_conv, k_alloc, k_boxA, k_boxI, k_boxB, k_boxN, k_boxBs, k_ldR, k_ldA, k_ldI, k_ldB, k_stA, k_stI, k_stB, ldC_some, stC_some, k_mkfn, k_slc, k_slcA, k_ixA, k_ixBs, k_ixSl, k_fadr, k_fld, k_ext, k_len, k_app, k_mn, k_mx, k_nilck, k_build, k_bsl1, k_bsl2, b_add, b_sub, b_mul, b_eql, b_neq, b_lss, b_leq, b_gtr, b_geq, Dn.setLast, Dn.getLast, evalO, mapO, Dn.get, putE, keepE_nil, keepE_cons, kp_some, kp_none, TV.one, TV.isAgg, Dn.part, k_boxR, negb, at0, at1, at2, at3, at4, dT, dF, wrapR_i64, Option.bind_some, Option.map_some, go_denK (c := l99_1) rfl, r1, b1', go_denK (c := l99_5) rfl, r2]
  have b99' : callRun pg (den pg) .sh [.fn 99 [] [], t, .i .i64 (l.length : Int), F] H = some (.tup [], H') := by rw [sh_fn]; exact b99
  refine body_ofs (x := .normal) (e := []) (vs := []) (d := d91) (by rw [hF.F]; rfl) rfl ?_ (.inr rfl) rfl
  simp (disch := omega) [d91, c91, zipE, go_nil, go_last, go_past, go_pastR, go_blkN, go_blkR, go_blkE, go_skip, go_exit, go_ret, go_scope, go_seq, go_reg, go_regd, go_opdN, go_opd, go_opdG, grdd_b, grdd_u, stpd_some, find_some, go_block, go_cond, cnd_b, go_opsN, go_ops, go_opsG, grd_b, grd_u, stp_some, fin_some, up_some, cont_some, k_call, k_mv, k_pick, k_bin, k_eqB, k_eqA, k_not, k_neg, k_conv, k_alloc, k_boxA, k_boxI, k_boxB, k_boxN, k_boxBs, k_ldR, k_ldA, k_ldI, k_ldB, k_stA, k_stI, k_stB, ldC_some, stC_some, k_mkfn, k_slc, k_slcA, k_ixA, k_ixBs, k_ixSl, k_fadr, k_fld, k_ext, k_len, k_app, k_mn, k_mx, k_nilck, k_build, k_bsl1, k_bsl2, b_add, b_sub, b_mul, b_eql, b_neq, b_lss, b_leq, b_gtr, b_geq, Dn.setLast, Dn.getLast, evalO, mapO, Dn.get, putE, keepE_nil, keepE_cons, kp_some, kp_none, TV.one, TV.isAgg, Dn.part, k_boxR, negb, at0, at1, at2, at3, at4, dT, dF, wrapR_i64, Option.bind_some, Option.map_some, hlen, b99']

end Go.Proofs.Tryd.Dn

/-
  Knight: when a tour cannot be completed, in plain terms.
-/

namespace Go.Proofs.Tryd.Dn
open Go.Dn

def Compl (c first : Nat) (closed : Bool) : Nat → Nat → List Nat → Prop
  | at_, left, [] => left = 0 ∧ (closed = true → near c at_ first = true)
  | at_, left, s :: p => near c at_ s = true ∧ left.testBit s = true ∧ Compl c first closed s (andN left (2 ^ s)) p

def endsL (r c u : Nat) : List Nat → Nat → Option Nat
  | [], e => some e
  | s :: l, e => if pop 64 (mv r c s &&& u) = 0 then none else endsL r c u l (if pop 64 (mv r c s &&& u) = 1 then e + 1 else e)
def useM (at_ first left : Nat) (closed : Bool) : Nat := if closed = true then (left ||| 2 ^ at_) ||| 2 ^ first else left ||| 2 ^ at_
def growH (r c left : Nat) : Nat → Nat → Nat
  | 0, x => x
  | f + 1, x => if x ||| (around r c x &&& left) = x then x else growH r c left f (x ||| (around r c x &&& left))
def hopeB (r c at_ first left : Nat) (closed : Bool) : Bool :=
  match endsL r c (useM at_ first left closed) (mem64 left) 0 with
  | none => true
  | some e => if (if closed = true then 0 else 1) < e then true else decide (growH r c left 40 (2 ^ at_) &&& left ≠ left)

theorem andN_two {left s t : Nat} (hl : left < 18446744073709551616) (hs : s < 64) : (andN left (2 ^ s)).testBit t = (left.testBit t && !decide (t = s)) := by
  rw [andN_bit hl, Nat.testBit_two_pow]
  by_cases h : t = s
  · rw [dT h, dT h.symm]
  · rw [dF h, dF (fun e => h e.symm)]

theorem Compl.mem {c first : Nat} {closed : Bool} : ∀ (p : List Nat) (at_ left : Nat), left < 18446744073709551616 → Compl c first closed at_ left p → ∀ t, t ∈ p ↔ left.testBit t = true
  | [], at_, left, hl, h, t => by
    have : left = 0 := h.1
    subst this
    simp
  | s :: p, at_, left, hl, h, t => by
    obtain ⟨h1, h2, h3⟩ := h
    have hs64 : s < 64 := by
      apply Classical.byContradiction
      intro hc
      rw [Nat.testBit_lt_two_pow (Nat.lt_of_lt_of_le (show left < 2 ^ 64 by omega) (Nat.pow_le_pow_right (by decide) (by omega)))] at h2
      cases h2
    have hlt : andN left (2 ^ s) < 18446744073709551616 := Nat.lt_of_le_of_lt (andN_le _ _ hl) hl
    have ih := Compl.mem p s _ hlt h3 t
    rw [List.mem_cons, ih, andN_two hl hs64]
    by_cases hts : t = s
    · subst hts; simp [h2]
    · simp [hts]

theorem compl_reach {r c first : Nat} {closed : Bool} (h : Brd r c) {x left0 : Nat} (hx : x < 2 ^ (r * c)) (hfix : x ||| (around r c x &&& left0) = x) : ∀ (p : List Nat) (at_ left : Nat), left < 2 ^ (r * c) → at_ < r * c → x.testBit at_ = true → (∀ t, left.testBit t = true → left0.testBit t = true) → Compl c first closed at_ left p → ∀ t, t ∈ p → x.testBit t = true
  | [], _, _, _, _, _, _, _, t, ht => by simp at ht
  | s :: p, at_, left, hl, ha, hxa, hsub, hc, t, ht => by
    obtain ⟨h1, h2, h3⟩ := hc
    have h64 := lv64 h
    have hs : s < r * c := by
      apply Classical.byContradiction
      intro hc
      rw [Nat.testBit_lt_two_pow (Nat.lt_of_lt_of_le hl (Nat.pow_le_pow_right (by decide) (by omega)))] at h2
      cases h2
    have hn := h.n36
    have hxs : x.testBit s = true := by
      rw [← hfix, Nat.testBit_or, Nat.testBit_and, (around_bit h hx hs).2 ⟨at_, hxa, ha, h1⟩, hsub s h2]
      simp
    rcases List.mem_cons.1 ht with rfl | ht
    · exact hxs
    · refine compl_reach h hx hfix p s _ (Nat.lt_of_le_of_lt (andN_le _ _ (by omega)) hl) hs hxs (fun u hu => ?_) h3 t ht
      rw [andN_two (by omega) (by omega)] at hu
      simp only [Bool.and_eq_true] at hu
      exact hsub u hu.1

theorem growH_fix {r c left : Nat} (h : Brd r c) (hl : left < 2 ^ (r * c)) : ∀ (f x : Nat), x < 2 ^ (r * c) → untr (r * c) x < f → growH r c left f x < 2 ^ (r * c) ∧ growH r c left f x ||| (around r c (growH r c left f x) &&& left) = growH r c left f x ∧ ∀ t, x.testBit t = true → (growH r c left f x).testBit t = true
  | 0, x, hx, hf => by omega
  | f + 1, x, hx, hf => by
    rw [growH]
    split
    · rename_i he
      exact ⟨hx, he, fun t ht => ht⟩
    · rename_i hne
      have hlt : x ||| (around r c x &&& left) < 2 ^ (r * c) := or_lt hx (Nat.lt_of_le_of_lt Nat.and_le_right hl)
      have hun := untr_grow hx hlt (fun i hi => by rw [Nat.testBit_or, hi]; rfl) hne
      obtain ⟨g1, g2, g3⟩ := growH_fix h hl f _ hlt (by omega)
      exact ⟨g1, g2, fun t ht => g3 t (by rw [Nat.testBit_or, ht]; rfl)⟩

theorem pop_two {n x : Nat} (hn : n ≤ 64) (hx : x < 2 ^ n) {a b : Nat} (ha : x.testBit a = true) (hb : x.testBit b = true) (hab : a ≠ b) : 2 ≤ pop 64 x := by
  rw [← mem64_len]
  have h64 : x < 18446744073709551616 := by have := Nat.pow_le_pow_right (n := 2) (by decide) hn; omega
  have := sub_len [a, b] (mem64 x) (by simp [hab]) fun t ht => by
    rw [List.mem_cons, List.mem_singleton] at ht
    rcases ht with rfl | rfl
    · exact (mem_mem64 h64).2 ha
    · exact (mem_mem64 h64).2 hb
  simpa using this
theorem pop_pos {n x : Nat} (hn : n ≤ 64) (hx : x < 2 ^ n) {a : Nat} (ha : x.testBit a = true) : 1 ≤ pop 64 x := by
  rw [← mem64_len]
  have h64 : x < 18446744073709551616 := by have := Nat.pow_le_pow_right (n := 2) (by decide) hn; omega
  exact List.length_pos_of_mem ((mem_mem64 h64).2 ha)

theorem compl_deg {r c first : Nat} {closed : Bool} (h : Brd r c) (hfst : first < r * c) {u : Nat} (hu : u < 2 ^ (r * c)) : ∀ (p : List Nat) (at_ left : Nat), left < 2 ^ (r * c) → at_ < r * c → u.testBit at_ = true → (∀ t, left.testBit t = true → u.testBit t = true) → left.testBit at_ = false → (closed = true → u.testBit first = true ∧ left.testBit first = false) →
    Compl c first closed at_ left p → (∀ s, s ∈ p → 1 ≤ pop 64 (mv r c s &&& u)) ∧ ∃ q z, p = q ++ z ∧ z.length ≤ 1 ∧ (∀ s, s ∈ q → 2 ≤ pop 64 (mv r c s &&& u)) ∧ (closed = true → p.length ≠ 1 ∨ at_ ≠ first → ∀ s, s ∈ p → 2 ≤ pop 64 (mv r c s &&& u))
  | [], at_, left, hl, ha, hua, hsub, hla, hcl, hc => ⟨fun s hs => by simp at hs, [], [], rfl, by simp, fun s hs => by simp at hs, fun _ _ s hs => by simp at hs⟩
  | s :: p, at_, left, hl, ha, hua, hsub, hla, hcl, hc => by
    obtain ⟨h1, h2, h3⟩ := hc
    have hn := h.n36
    have h64 := lv64 h
    have hs : s < r * c := by
      apply Classical.byContradiction
      intro hc
      rw [Nat.testBit_lt_two_pow (Nat.lt_of_lt_of_le hl (Nat.pow_le_pow_right (by decide) (by omega)))] at h2
      cases h2
    have hmvl := mv_bound h hs
    have hal : mv r c s &&& u < 2 ^ (r * c) := Nat.lt_of_le_of_lt Nat.and_le_left hmvl
    have hpre : (mv r c s &&& u).testBit at_ = true := by
      rw [Nat.testBit_and, mv_near h hs ha, near_comm, h1, hua]; rfl
    have hlt : andN left (2 ^ s) < 2 ^ (r * c) := Nat.lt_of_le_of_lt (andN_le _ _ (by omega)) hl
    have hbit : ∀ t, (andN left (2 ^ s)).testBit t = (left.testBit t && !decide (t = s)) := fun t => andN_two (by omega) (by omega)
    have hus := hsub s h2
    obtain ⟨k1, q, z, k2, k3, k4, k5⟩ := compl_deg (closed := closed) h hfst hu p s _ hlt hs hus (fun t ht => by rw [hbit] at ht; simp only [Bool.and_eq_true] at ht; exact hsub t ht.1) (by rw [hbit]; simp) (fun hcc => by
      obtain ⟨c1, c2⟩ := hcl hcc
      exact ⟨c1, by rw [hbit, c2]; rfl⟩) h3
    have hsne : s ≠ at_ := by rintro rfl; rw [h2] at hla; cases hla
    refine ⟨fun x hx => ?_, ?_⟩
    · rcases List.mem_cons.1 hx with rfl | hx
      · exact pop_pos (by omega) hal hpre
      · exact k1 x hx
    · cases p with
      | nil =>
        refine ⟨[], [s], rfl, by simp, fun x hx => by simp at hx, fun hcc hor x hx => ?_⟩
        rw [List.mem_singleton] at hx
        subst hx
        have hf := h3.2 hcc
        obtain ⟨c1, c2⟩ := hcl hcc
        have hne : at_ ≠ first := by
          rcases hor with h5 | h5
          · simp at h5
          · exact h5
        refine pop_two (by omega) hal hpre (b := first) ?_ hne
        rw [Nat.testBit_and, mv_near h hs hfst, hf, c1]; rfl
      | cons y p' =>
        have hy := h3.1
        have hyb := h3.2.1
        have hyr : y < r * c := by
          apply Classical.byContradiction
          intro hc
          rw [Nat.testBit_lt_two_pow (Nat.lt_of_lt_of_le hlt (Nat.pow_le_pow_right (by decide) (by omega)))] at hyb
          cases hyb
        have hyb' := hyb
        rw [hbit] at hyb'
        simp only [Bool.and_eq_true] at hyb'
        have hya : at_ ≠ y := by rintro rfl; rw [hyb'.1] at hla; cases hla
        have h2s : 2 ≤ pop 64 (mv r c s &&& u) := by
          refine pop_two (by omega) hal hpre (b := y) ?_ hya
          rw [Nat.testBit_and, mv_near h hs hyr, hy, hsub y hyb'.1]; rfl
        refine ⟨s :: q, z, by rw [k2]; rfl, k3, fun x hx => ?_, fun hcc hor x hx => ?_⟩
        · rcases List.mem_cons.1 hx with rfl | hx
          · exact h2s
          · exact k4 x hx
        · rcases List.mem_cons.1 hx with rfl | hx
          · exact h2s
          · refine k5 hcc (.inr ?_) x hx
            rintro rfl
            rw [(hcl hcc).2] at h2
            cases h2

theorem endsL_none {r c u : Nat} : ∀ (l : List Nat) (e : Nat), (∀ s, s ∈ l → 1 ≤ pop 64 (mv r c s &&& u)) → endsL r c u l e ≠ none
  | [], e, _ => by simp [endsL]
  | s :: l, e, h => by
    rw [endsL, if_neg (by have := h s (by simp); omega)]
    exact endsL_none l _ fun x hx => h x (by simp [hx])

theorem endsL_count {r c u : Nat} (l : List Nat) : ∀ (e e' : Nat), endsL r c u l e = some e' → e' = e + l.countP fun s => decide (pop 64 (mv r c s &&& u) = 1) := by
  induction l with
  | nil =>
    intro e e' h
    have h1 : some e = some e' := h
    injection h1 with h1
    rw [List.countP_nil]; omega
  | cons s l ih =>
    intro e e' h
    rw [endsL] at h
    rw [List.countP_cons]
    generalize pop 64 (mv r c s &&& u) = P at h ⊢
    by_cases h0 : P = 0
    · rw [if_pos h0] at h; cases h
    · rw [if_neg h0] at h
      have h2 := ih _ e' h
      by_cases h1 : P = 1
      · rw [if_pos h1] at h2
        rw [dT h1, if_pos rfl]; omega
      · rw [if_neg h1] at h2
        rw [dF h1, if_neg (by simp)]; omega

theorem compl_nodup {c first : Nat} {closed : Bool} : ∀ (p : List Nat) (at_ left : Nat), left < 18446744073709551616 → Compl c first closed at_ left p → p.Nodup
  | [], _, _, _, _ => List.nodup_nil
  | s :: p, at_, left, hl, h => by
    obtain ⟨h1, h2, h3⟩ := h
    have hs64 : s < 64 := by
      apply Classical.byContradiction
      intro hc
      rw [Nat.testBit_lt_two_pow (Nat.lt_of_lt_of_le (show left < 2 ^ 64 by omega) (Nat.pow_le_pow_right (by decide) (by omega)))] at h2
      cases h2
    have hlt : andN left (2 ^ s) < 18446744073709551616 := Nat.lt_of_le_of_lt (andN_le _ _ hl) hl
    refine List.nodup_cons.2 ⟨fun hm => ?_, compl_nodup p s _ hlt h3⟩
    have := (Compl.mem p s _ hlt h3 s).1 hm
    rw [andN_two hl hs64] at this
    simp at this

theorem hope_sound {r c at_ first left : Nat} {closed : Bool} (h : Brd r c) (hfst : first < r * c) (ha : at_ < r * c) (hl : left < 2 ^ (r * c)) (hla : left.testBit at_ = false) (hlf : closed = true → left.testBit first = false)
    (hedge : closed = true → at_ = first → ∀ s, s < r * c → near c at_ s = true → left ≠ 2 ^ s) (hb : hopeB r c at_ first left closed = true) (p : List Nat) : ¬ Compl c first closed at_ left p := by
  intro hc
  have hn := h.n36
  have h64 := lv64 h
  have hmem := Compl.mem p at_ left (by omega) hc
  have hmem' : ∀ t, t ∈ mem64 left ↔ t ∈ p := fun t => by rw [mem_mem64 (by omega), hmem t]
  have h2a : 2 ^ at_ < 2 ^ (r * c) := Nat.pow_lt_pow_right (by decide) ha
  have h2f : 2 ^ first < 2 ^ (r * c) := Nat.pow_lt_pow_right (by decide) hfst
  obtain ⟨u, hu⟩ : ∃ u, u = useM at_ first left closed := ⟨_, rfl⟩
  have hul : u < 2 ^ (r * c) := by
    rw [hu]; unfold useM
    split
    · exact or_lt (or_lt hl h2a) h2f
    · exact or_lt hl h2a
  have hua : u.testBit at_ = true := by
    rw [hu]; unfold useM
    split
    · rw [Nat.testBit_or, Nat.testBit_or, Nat.testBit_two_pow, dT rfl]; simp
    · rw [Nat.testBit_or, Nat.testBit_two_pow, dT rfl]; simp
  have hus : ∀ t, left.testBit t = true → u.testBit t = true := fun t ht => by
    rw [hu]; unfold useM
    split
    · rw [Nat.testBit_or, Nat.testBit_or, ht]; rfl
    · rw [Nat.testBit_or, ht]; rfl
  have huf : closed = true → u.testBit first = true ∧ left.testBit first = false := fun hcc => by
    refine ⟨?_, hlf hcc⟩
    rw [hu]; unfold useM
    rw [if_pos hcc, Nat.testBit_or, Nat.testBit_two_pow, dT rfl]; simp
  obtain ⟨k1, q, z, k2, k3, k4, k5⟩ := compl_deg (closed := closed) h hfst hul p at_ left hl ha hua hus hla huf hc
  unfold hopeB at hb
  rw [← hu] at hb
  split at hb
  · rename_i he
    exact endsL_none _ _ (fun s hs => k1 s ((hmem' s).1 hs)) he
  · rename_i e he
    have hcount := endsL_count _ _ _ he
    rw [Nat.zero_add, List.countP_eq_length_filter] at hcount
    have hsubz : e ≤ z.length := by
      rw [hcount]
      refine sub_len _ z (List.Nodup.sublist List.filter_sublist (mem64_nodup left)) fun s hs => ?_
      rw [List.mem_filter] at hs
      have hsp := (hmem' s).1 hs.1
      rw [k2, List.mem_append] at hsp
      rcases hsp with hsp | hsp
      · have := k4 s hsp
        have h1 : pop 64 (mv r c s &&& u) = 1 := by simpa using hs.2
        omega
      · exact hsp
    have hclosed0 : closed = true → e = 0 := fun hcc => by
      have hor : p.length ≠ 1 ∨ at_ ≠ first := by
        by_cases hp1 : p.length = 1
        · refine .inr fun he => ?_
          match p, hp1, hc with
          | [s], _, hc =>
            obtain ⟨c1, c2, c3, _⟩ := hc
            have hsr : s < r * c := by
              apply Classical.byContradiction
              intro hcx
              rw [Nat.testBit_lt_two_pow (Nat.lt_of_lt_of_le hl (Nat.pow_le_pow_right (by decide) (by omega)))] at c2
              cases c2
            refine hedge hcc he s hsr c1 ?_
            apply Nat.eq_of_testBit_eq
            intro t
            have h3 := andN_two (left := left) (s := s) (t := t) (by omega) (by omega)
            rw [c3, Nat.zero_testBit] at h3
            rw [Nat.testBit_two_pow]
            by_cases hts : t = s
            · rw [dT hts.symm, hts, c2]
            · rw [dF (fun e => hts e.symm)]
              rw [dF hts] at h3
              simpa using h3.symm
        · exact .inl hp1
      have hall := k5 hcc hor
      rw [hcount]
      have : ((mem64 left).filter fun s => decide (pop 64 (mv r c s &&& u) = 1)) = [] := by
        rw [List.filter_eq_nil_iff]
        intro s hs
        have := hall s ((hmem' s).1 hs)
        have hne : ¬ pop 64 (mv r c s &&& u) = 1 := by omega
        rw [dF hne]; exact Bool.false_ne_true
      rw [this]; rfl
    cases closed with
    | true =>
      have := hclosed0 rfl
      simp only [if_true] at hb
      split at hb
      · omega
      · rw [decide_eq_true_eq] at hb
        have hun := untr_le (r * c) (2 ^ at_)
        obtain ⟨g1, g2, g3⟩ := growH_fix h hl 40 (2 ^ at_) h2a (by omega)
        refine hb ?_
        apply Nat.eq_of_testBit_eq
        intro t
        rw [Nat.testBit_and]
        cases hlt : left.testBit t with
        | false => simp
        | true =>
          rw [compl_reach (closed := true) h g1 g2 p at_ left hl ha (g3 at_ (by rw [Nat.testBit_two_pow, dT rfl])) (fun t ht => ht) hc t ((hmem t).2 hlt)]
          rfl
    | false =>
      simp only [Bool.false_eq_true, if_false] at hb
      split at hb
      · omega
      · rw [decide_eq_true_eq] at hb
        have hun := untr_le (r * c) (2 ^ at_)
        obtain ⟨g1, g2, g3⟩ := growH_fix h hl 40 (2 ^ at_) h2a (by omega)
        refine hb ?_
        apply Nat.eq_of_testBit_eq
        intro t
        rw [Nat.testBit_and]
        cases hlt : left.testBit t with
        | false => simp
        | true =>
          rw [compl_reach (closed := false) h g1 g2 p at_ left hl ha (g3 at_ (by rw [Nat.testBit_two_pow, dT rfl])) (fun t ht => ht) hc t ((hmem t).2 hlt)]
          rfl

end Go.Proofs.Tryd.Dn

/-
  Knight: when a tour cannot be completed, in the program.
-/

namespace Go.Proofs.Tryd.Dn
open Go.Dn

structure HS (BV : TV) (u : Nat) (H : Heap) (e : Nat) (out : Bool) : Prop where
  a0 : H[0]? = some (.cells [BV] false)
  a1 : H[1]? = some (.cells [.b out] false)
  a2 : H[2]? = some (.cells [.i .i64 (e : Int)] false)
  a3 : H[3]? = some (.cells [.i .u64 (u : Int)] false)
  len : 5 < H.length

theorem HS.set {BV : TV} {u : Nat} {H : Heap} {e : Nat} {out : Bool} (h : HS BV u H e out) {j : Nat} (hj : 4 ≤ j) (o : AObj) : HS BV u (H.set j o) e out :=
  ⟨by rw [List.getElem?_set_ne (by omega)]; exact h.a0, by rw [List.getElem?_set_ne (by omega)]; exact h.a1, by rw [List.getElem?_set_ne (by omega)]; exact h.a2, by rw [List.getElem?_set_ne (by omega)]; exact h.a3, by simpa using h.len⟩

theorem hope_round {pg : Pg} (hF : Free pg) {r c u : Nat} {bo : Bool} (h : Brd r c) (hu : u < 2 ^ (r * c))
    {L : ALoop} {e : Env} {x1 x3 x13 : TV} (hL : L = lp1 a90_0 b90_1 31 [1, 3, 5, 10, 11, 12, 13] e) (he : keepE [1, 3, 5, 10, 11, 12, 13] e = [(1, x1), (3, x3), (5, .ref 0 0), (10, .ref 1 0), (11, .ref 2 0), (12, .ref 3 0), (13, x13)]) {o : Option Nat} :
    Rnd pg 5 4 L (fun l H => ∃ n, HS (.bp bo (.agg (bM r c))) u H n false ∧ n + l.length ≤ 64 ∧ (∀ t, t ∈ l → t < r * c) ∧ endsL r c u l n = o)
      (fun x H => x = .ret ∧ ∃ n, o = none ∧ HS (.bp bo (.agg (bM r c))) u H n true) := by
  rintro s rest H ⟨n, hS, hn64, hts, ho⟩ hlpc hk
  have hn := h.n36
  have h1n := lv64 h
  have hs := hts s (by simp)
  obtain ⟨HB, hHB⟩ : ∃ HB, HB = H.set 5 (.loop { L with st := .busy }) := ⟨_, rfl⟩
  have pB : HS (.bp bo (.agg (bM r c))) u HB n false := by rw [hHB]; exact hS.set (by omega) _
  have hlB : HB[5]? = some (.loop { L with st := .busy }) := by rw [hHB, List.getElem?_set_self hS.len]
  have hsB : HB[4]? = H[4]? := by rw [hHB, List.getElem?_set_ne (by omega)]
  have hLe : L.env = [(1, x1), (3, x3), (5, .ref 0 0), (10, .ref 1 0), (11, .ref 2 0), (12, .ref 3 0), (13, x13)] := by rw [hL]; exact he
  have hLa : L.assign = a90_0 := by rw [hL]; rfl
  have hLb : L.body = b90_1 := by rw [hL]; rfl
  have hLp : L.params = [31] := by rw [hL]; rfl
  have ha1 : den pg L.assign ((L.params.zip [.i .i64 (s : Int)]).reverse ++ L.env) H = some ⟨.normal, [(5, .ref 0 0), (10, .ref 1 0), (11, .ref 2 0), (12, .ref 3 0), (14, .i .i64 (s : Int))], H⟩ := by
    rw [hLe, hLa, hLp, den_eq, runC_go]
    simp [a90_0, go_nil, go_last, go_past, go_pastR, go_blkN, go_blkR, go_blkE, go_skip, go_exit, go_ret, go_scope, go_seq, go_reg, go_regd, go_opdN, go_opd, go_opdG, grdd_b, grdd_u, stpd_some, find_some, go_block, go_cond, cnd_b, go_opsN, go_ops, go_opsG, grd_b, grd_u, stp_some, fin_some, up_some, cont_some, k_call, k_mv, k_pick, k_bin, k_eqB, k_eqA, k_not, k_neg, k_conv, k_alloc, k_boxA, k_boxI, k_boxB, k_boxN, k_boxBs, k_ldR, k_ldA, k_ldI, k_ldB, k_stA, k_stI, k_stB, ldC_some, stC_some, k_mkfn, k_slc, k_slcA, k_ixA, k_ixBs, k_ixSl, k_fadr, k_fld, k_ext, k_len, k_app, k_mn, k_mx, k_nilck, k_build, k_bsl1, k_bsl2, b_add, b_sub, b_mul, b_eql, b_neq, b_lss, b_leq, b_gtr, b_geq, Dn.setLast, Dn.getLast, evalO, mapO, Dn.get, putE, keepE, TV.one, TV.isAgg, Dn.part]
  have l0 := ld_box (pg := pg) (R := den pg) pB.a0 rfl
  have l2 := ld_box (pg := pg) (R := den pg) pB.a2 rfl
  have l3 := ld_box (pg := pg) (R := den pg) pB.a3 rfl
  obtain ⟨MB, QB, bf⟩ := bd_facts (pg := pg) h (H0 := HB) (BV := .bp bo (.agg (bM r c))) (.inl ⟨bo, rfl⟩)
  obtain ⟨nc, f3, bx⟩ := bf HB (.inl ⟨bo, rfl⟩)
  obtain ⟨ix, lx⟩ := bx s hs
  have a1 := and_uu (m := mv r c s) (k := u) (by have := mv_bound h hs; omega) (by omega)
  have c70 := call70 (pg := pg) hF (x := mv r c s &&& u) (Nat.lt_of_le_of_lt Nat.and_le_right (by omega)) HB
  have ho' : (if pop 64 (mv r c s &&& u) = 0 then none else endsL r c u rest (if pop 64 (mv r c s &&& u) = 1 then n + 1 else n)) = o := ho
  rw [List.length_cons] at hn64
  obtain ⟨P, hP⟩ : ∃ P, P = pop 64 (mv r c s &&& u) := ⟨_, rfl⟩
  rw [← hP] at c70 ho'
  obtain ⟨V, hV⟩ : ∃ V, V = mv r c s &&& u := ⟨_, rfl⟩
  rw [← hV] at c70 a1
  generalize TV.bp bo (.agg (bM r c)) = BB at *
  by_cases h0 : P = 0
  · rw [if_pos h0] at ho'
    subst h0
    have st := st_box (pg := pg) (R := den pg) (v := .b true) pB.a1 rfl
    have h1l := (List.getElem?_eq_some_iff.1 pB.a1).1
    obtain ⟨H1, hH1⟩ : ∃ H1, H1 = HB.set 1 (.cells [.b true] false) := ⟨_, rfl⟩
    have p1 : HS BB u H1 n true := by
      rw [hH1]
      exact ⟨by rw [List.getElem?_set_ne (by omega)]; exact pB.a0, by rw [List.getElem?_set_self h1l], by rw [List.getElem?_set_ne (by omega)]; exact pB.a2, by rw [List.getElem?_set_ne (by omega)]; exact pB.a3, by simpa using pB.len⟩
    rw [← hH1] at st
    have hbd : ∃ e2, den pg L.body [(5, .ref 0 0), (10, .ref 1 0), (11, .ref 2 0), (12, .ref 3 0), (14, .i .i64 (s : Int))] HB = some ⟨.ret, e2, H1⟩ := by
      rw [hLb, den_eq, runC_go]
      exact ⟨_, by
        simp (disch := omega) [b90_1, go_nil, go_last, go_past, go_pastR, go_blkN, go_blkR, go_blkE, go_skip, go_exit, go_ret, go_scope, go_seq, go_reg, go_regd, go_opdN, go_opd, go_opdG, grdd_b, grdd_u, stpd_some, find_some, go_block, go_cond, cnd_b, go_opsN, go_ops, go_opsG, grd_b, grd_u, stp_some, fin_some, up_some, cont_some, k_call, k_mv, k_pick, k_bin, k_eqB, k_eqA, k_not, k_neg, k_conv, k_alloc, k_boxA, k_boxI, k_boxB, k_boxN, k_boxBs, k_ldR, k_ldA, k_ldI, k_ldB, k_stA, k_stI, k_stB, ldC_some, stC_some, k_mkfn, k_slc, k_slcA, k_ixA, k_ixBs, k_ixSl, k_fadr, k_fld, k_ext, k_len, k_app, k_mn, k_mx, k_nilck, k_build, k_bsl1, k_bsl2, b_add, b_sub, b_mul, b_eql, b_neq, b_lss, b_leq, b_gtr, b_geq, Dn.setLast, Dn.getLast, evalO, mapO, Dn.get, putE, keepE_nil, keepE_cons, kp_some, kp_none, TV.one, TV.isAgg, Dn.part, k_boxR, negb, at0, at1, at2, at3, at4, dT, dF, wrapR_i64, Option.bind_some, Option.map_some, l0, l3, nc, f3, ix, lx, a1, c70, st]
        rfl⟩
    obtain ⟨e2, hbd⟩ := hbd
    refine .inr ⟨.ret, H1.set 5 (.loop L), by simp, Body.of ha1 hlpc (by rw [← hHB]; exact hbd) (by rw [hH1, List.getElem?_set_ne (by omega)]; exact hlB), rfl, n, ho'.symm, p1.set (by omega) _⟩
  · rw [if_neg h0] at ho'
    by_cases h1 : P = 1
    · rw [if_pos h1] at ho'
      subst h1
      have w1 : wrapR .i64 ((n : Int) + 1) = .i .i64 ((n + 1 : Nat) : Int) := by rw [← Int.natCast_succ]; exact wrapR_i64 (by omega)
      have st := st_box (pg := pg) (R := den pg) (v := .i .i64 ((n + 1 : Nat) : Int)) pB.a2 rfl
      have h1l := (List.getElem?_eq_some_iff.1 pB.a2).1
      obtain ⟨H1, hH1⟩ : ∃ H1, H1 = HB.set 2 (.cells [.i .i64 ((n + 1 : Nat) : Int)] false) := ⟨_, rfl⟩
      have p1 : HS BB u H1 (n + 1) false := by
        rw [hH1]
        exact ⟨by rw [List.getElem?_set_ne (by omega)]; exact pB.a0, by rw [List.getElem?_set_ne (by omega)]; exact pB.a1, by rw [List.getElem?_set_self h1l], by rw [List.getElem?_set_ne (by omega)]; exact pB.a3, by simpa using pB.len⟩
      rw [← hH1] at st
      have hbd : ∃ e2, den pg L.body [(5, .ref 0 0), (10, .ref 1 0), (11, .ref 2 0), (12, .ref 3 0), (14, .i .i64 (s : Int))] HB = some ⟨.normal, e2, H1⟩ := by
        rw [hLb, den_eq, runC_go]
        generalize ((n + 1 : Nat) : Int) = N1 at *
        exact ⟨_, by
          simp (disch := omega) [b90_1, go_nil, go_last, go_past, go_pastR, go_blkN, go_blkR, go_blkE, go_skip, go_exit, go_ret, go_scope, go_seq, go_reg, go_regd, go_opdN, go_opd, go_opdG, grdd_b, grdd_u, stpd_some, find_some, go_block, go_cond, cnd_b, go_opsN, go_ops, go_opsG, grd_b, grd_u, stp_some, fin_some, up_some, cont_some, k_call, k_mv, k_pick, k_bin, k_eqB, k_eqA, k_not, k_neg, k_conv, k_alloc, k_boxA, k_boxI, k_boxB, k_boxN, k_boxBs, k_ldR, k_ldA, k_ldI, k_ldB, k_stA, k_stI, k_stB, ldC_some, stC_some, k_mkfn, k_slc, k_slcA, k_ixA, k_ixBs, k_ixSl, k_fadr, k_fld, k_ext, k_len, k_app, k_mn, k_mx, k_nilck, k_build, k_bsl1, k_bsl2, b_add, b_sub, b_mul, b_eql, b_neq, b_lss, b_leq, b_gtr, b_geq, Dn.setLast, Dn.getLast, evalO, mapO, Dn.get, putE, keepE_nil, keepE_cons, kp_some, kp_none, TV.one, TV.isAgg, Dn.part, k_boxR, negb, at0, at1, at2, at3, at4, dT, dF, wrapR_i64, Option.bind_some, Option.map_some, l0, l2, l3, nc, f3, ix, lx, a1, c70, w1, st]
          rfl⟩
      obtain ⟨e2, hbd⟩ := hbd
      refine .inl ⟨H1.set 5 (.loop L), Body.of ha1 hlpc (by rw [← hHB]; exact hbd) (by rw [hH1, List.getElem?_set_ne (by omega)]; exact hlB), ⟨n + 1, p1.set (by omega) _, by omega, fun x hx => hts x (by simp [hx]), ho'⟩, ?_⟩
      rw [List.getElem?_set_ne (by omega), hH1, List.getElem?_set_ne (by omega)]; exact hsB
    · rw [if_neg h1] at ho'
      have hbd : ∃ e2, den pg L.body [(5, .ref 0 0), (10, .ref 1 0), (11, .ref 2 0), (12, .ref 3 0), (14, .i .i64 (s : Int))] HB = some ⟨.normal, e2, HB⟩ := by
        rw [hLb, den_eq, runC_go]
        have h1i : ¬ ((P : Int) = 1) := by omega
        exact ⟨_, by
          simp (disch := omega) [b90_1, go_nil, go_last, go_past, go_pastR, go_blkN, go_blkR, go_blkE, go_skip, go_exit, go_ret, go_scope, go_seq, go_reg, go_regd, go_opdN, go_opd, go_opdG, grdd_b, grdd_u, stpd_some, find_some, go_block, go_cond, cnd_b, go_opsN, go_ops, go_opsG, grd_b, grd_u, stp_some, fin_some, up_some, cont_some, k_call, k_mv, k_pick, k_bin, k_eqB, k_eqA, k_not, k_neg, k_conv, k_alloc, k_boxA, k_boxI, k_boxB, k_boxN, k_boxBs, k_ldR, k_ldA, k_ldI, k_ldB, k_stA, k_stI, k_stB, ldC_some, stC_some, k_mkfn, k_slc, k_slcA, k_ixA, k_ixBs, k_ixSl, k_fadr, k_fld, k_ext, k_len, k_app, k_mn, k_mx, k_nilck, k_build, k_bsl1, k_bsl2, b_add, b_sub, b_mul, b_eql, b_neq, b_lss, b_leq, b_gtr, b_geq, Dn.setLast, Dn.getLast, evalO, mapO, Dn.get, putE, keepE_nil, keepE_cons, kp_some, kp_none, TV.one, TV.isAgg, Dn.part, k_boxR, negb, at0, at1, at2, at3, at4, dT, dF, wrapR_i64, Option.bind_some, Option.map_some, l0, l3, nc, f3, ix, lx, a1, c70, h0, h1i]
          rfl⟩
      obtain ⟨e2, hbd⟩ := hbd
      refine .inl ⟨HB.set 5 (.loop L), Body.of ha1 hlpc (by rw [← hHB]; exact hbd) hlB, ⟨n, pB.set (by omega) _, by omega, fun x hx => hts x (by simp [hx]), ho'⟩, ?_⟩
      rw [List.getElem?_set_ne (by omega)]; exact hsB

theorem l90_3_all {pg : Pg} (hF : Free pg) {r c left : Nat} {BV : TV} (h : Brd r c) (hl : left < 2 ^ (r * c)) {H : Heap} (h0 : H[0]? = some (.cells [BV] false)) (hBV : ∃ bo, BV = .bp bo (.agg (bM r c))) : ∀ (f x : Nat), x < 2 ^ (r * c) → untr (r * c) x < f →
    ∃ e, den pg l90_3 [(3, .i .u64 (left : Int)), (5, .ref 0 0), (10, .ref 1 0), (15, .i .u64 (x : Int))] H = some ⟨.exit 3, e, H⟩ ∧ keepE [3, 10, 15] e = [(3, .i .u64 (left : Int)), (10, .ref 1 0), (15, .i .u64 (growH r c left f x : Int))]
  | 0, x, hx, hf => by omega
  | f + 1, x, hx, hf => by
    have hn := h.n36
    have h1n := lv64 h
    obtain ⟨bo, rfl⟩ := hBV
    have l0 := ld_box (pg := pg) (R := den pg) h0 rfl
    have c71 := call71 (pg := pg) hF (bo := bo) h hx H
    have har := around_lt h hx
    have a1 := and_uu (m := around r c x) (k := left) (by omega) (by omega)
    have hal : around r c x &&& left < 2 ^ (r * c) := Nat.lt_of_le_of_lt Nat.and_le_right hl
    have o1 := or_uu (m := x) (k := around r c x &&& left) (by omega) (by omega)
    have hlt : x ||| (around r c x &&& left) < 2 ^ (r * c) := or_lt hx hal
    have hg : growH r c left (f + 1) x = if x ||| (around r c x &&& left) = x then x else growH r c left f (x ||| (around r c x &&& left)) := rfl
    rw [hg]
    by_cases he : x ||| (around r c x &&& left) = x
    · rw [if_pos he]
      rw [he] at o1
      generalize around r c x &&& left = Y at *
      generalize around r c x = Z at *
      generalize TV.bp bo (.agg (bM r c)) = BB at *
      have key : ∃ e, den pg l90_3 [(3, .i .u64 (left : Int)), (5, .ref 0 0), (10, .ref 1 0), (15, .i .u64 (x : Int))] H = some ⟨.exit 3, e, H⟩ ∧ keepE [3, 10, 15] e = [(3, .i .u64 (left : Int)), (10, .ref 1 0), (15, .i .u64 (x : Int))] := by
        refine ⟨_, by
          rw [l90_3, den_loop]
          simp (disch := omega) [b90_2, go_nil, go_last, go_past, go_pastR, go_blkN, go_blkR, go_blkE, go_skip, go_exit, go_ret, go_scope, go_seq, go_reg, go_regd, go_opdN, go_opd, go_opdG, grdd_b, grdd_u, stpd_some, find_some, go_block, go_cond, cnd_b, go_opsN, go_ops, go_opsG, grd_b, grd_u, stp_some, fin_some, up_some, cont_some, k_call, k_mv, k_pick, k_bin, k_eqB, k_eqA, k_not, k_neg, k_conv, k_alloc, k_boxA, k_boxI, k_boxB, k_boxN, k_boxBs, k_ldR, k_ldA, k_ldI, k_ldB, k_stA, k_stI, k_stB, ldC_some, stC_some, k_mkfn, k_slc, k_slcA, k_ixA, k_ixBs, k_ixSl, k_fadr, k_fld, k_ext, k_len, k_app, k_mn, k_mx, k_nilck, k_build, k_bsl1, k_bsl2, b_add, b_sub, b_mul, b_eql, b_neq, b_lss, b_leq, b_gtr, b_geq, Dn.setLast, Dn.getLast, evalO, mapO, Dn.get, putE, keepE_nil, keepE_cons, kp_some, kp_none, TV.one, TV.isAgg, Dn.part, k_boxR, negb, at0, at1, at2, at3, at4, dT, dF, wrapR_i64, Option.bind_some, Option.map_some, l0, c71, a1, o1]
          rfl, rfl⟩
      exact key
    · rw [if_neg he]
      have hun := untr_grow hx hlt (fun i hi => by rw [Nat.testBit_or, hi]; rfl) he
      obtain ⟨e, r1, r2⟩ := l90_3_all hF h hl h0 ⟨bo, rfl⟩ f _ hlt (by omega)
      refine ⟨e, Eq.trans ?_ r1, r2⟩
      have hne : ¬ (((x ||| (around r c x &&& left) : Nat) : Int) = (x : Int)) := by omega
      generalize x ||| (around r c x &&& left) = W at *
      generalize around r c x &&& left = Y at *
      generalize around r c x = Z at *
      generalize TV.bp bo (.agg (bM r c)) = BB at *
      rw [l90_3, den_loop]
      simp (disch := omega) [l90_3, b90_2, go_nil, go_last, go_past, go_pastR, go_blkN, go_blkR, go_blkE, go_skip, go_exit, go_ret, go_scope, go_seq, go_reg, go_regd, go_opdN, go_opd, go_opdG, grdd_b, grdd_u, stpd_some, find_some, go_block, go_cond, cnd_b, go_opsN, go_ops, go_opsG, grd_b, grd_u, stp_some, fin_some, up_some, cont_some, k_call, k_mv, k_pick, k_bin, k_eqB, k_eqA, k_not, k_neg, k_conv, k_alloc, k_boxA, k_boxI, k_boxB, k_boxN, k_boxBs, k_ldR, k_ldA, k_ldI, k_ldB, k_stA, k_stI, k_stB, ldC_some, stC_some, k_mkfn, k_slc, k_slcA, k_ixA, k_ixBs, k_ixSl, k_fadr, k_fld, k_ext, k_len, k_app, k_mn, k_mx, k_nilck, k_build, k_bsl1, k_bsl2, b_add, b_sub, b_mul, b_eql, b_neq, b_lss, b_leq, b_gtr, b_geq, Dn.setLast, Dn.getLast, evalO, mapO, Dn.get, putE, keepE_nil, keepE_cons, kp_some, kp_none, TV.one, TV.isAgg, Dn.part, k_boxR, negb, at0, at1, at2, at3, at4, dT, dF, wrapR_i64, Option.bind_some, Option.map_some, l0, c71, a1, o1, hne]

theorem useM_lt {r c at_ first left : Nat} {closed : Bool} (ha : at_ < r * c) (hfst : first < r * c) (hl : left < 2 ^ (r * c)) : useM at_ first left closed < 2 ^ (r * c) := by
  have h2a : 2 ^ at_ < 2 ^ (r * c) := Nat.pow_lt_pow_right (by decide) ha
  have h2f : 2 ^ first < 2 ^ (r * c) := Nat.pow_lt_pow_right (by decide) hfst
  unfold useM
  split
  · exact or_lt (or_lt hl h2a) h2f
  · exact or_lt hl h2a

theorem fn90 {pg : Pg} (hF : Free pg) {r c at_ first left : Nat} {closed bo : Bool} (h : Brd r c) (ha : at_ < r * c) (hfst : first < r * c) (hl : left < 2 ^ (r * c)) :
    PFn pg 90 [.bp bo (.agg (bM r c)), .i .i64 (at_ : Int), .i .i64 (first : Int), .i .u64 (left : Int), .b closed] (.b (hopeB r c at_ first left closed)) := by
  have hn := h.n36
  have h1n := lv64 h
  have h2a : 2 ^ at_ < 2 ^ (r * c) := Nat.pow_lt_pow_right (by decide) ha
  have h2f : 2 ^ first < 2 ^ (r * c) := Nat.pow_lt_pow_right (by decide) hfst
  have h1l : left ||| 2 ^ at_ < 2 ^ (r * c) := or_lt hl h2a
  obtain ⟨u, hu⟩ : ∃ u, u = useM at_ first left closed := ⟨_, rfl⟩
  have hul : u < 2 ^ (r * c) := by rw [hu]; exact useM_lt ha hfst hl
  obtain ⟨lim, hlim⟩ : ∃ lim : Nat, lim = if closed = true then 0 else 1 := ⟨_, rfl⟩
  have hB : hopeB r c at_ first left closed = match endsL r c u (mem64 left) 0 with
    | none => true
    | some e => if lim < e then true else decide (growH r c left 40 (2 ^ at_) &&& left ≠ left) := by rw [hu, hlim]; rfl
  rw [hB]
  obtain ⟨BP, hBP⟩ : ∃ BP, BP = TV.bp bo (.agg (bM r c)) := ⟨_, rfl⟩
  have kb : dkc pg (den pg) (.box false) [BP] [] = some (.ref 0 0, [.cells [BP] false]) := by rw [hBP]; exact k_boxP _ _ _
  obtain ⟨H0, hH0⟩ : ∃ H0 : Heap, H0 = [.cells [BP] false] := ⟨_, rfl⟩
  rw [← hH0] at kb
  obtain ⟨HA, hHA⟩ : ∃ HA : Heap, HA = [.cells [BP] false, .cells [.b false] false] := ⟨_, rfl⟩
  obtain ⟨HB, hHB⟩ : ∃ HB : Heap, HB = [.cells [BP] false, .cells [.b false] false, .cells [.i .i64 0] false] := ⟨_, rfl⟩
  obtain ⟨HC, hHC⟩ : ∃ HC : Heap, HC = [.cells [BP] false, .cells [.b false] false, .cells [.i .i64 0] false, .cells [.i .u64 0] false] := ⟨_, rfl⟩
  obtain ⟨HD, hHD⟩ : ∃ HD : Heap, HD = [.cells [BP] false, .cells [.b false] false, .cells [.i .i64 0] false, .cells [.i .u64 ((left ||| 2 ^ at_ : Nat) : Int)] false] := ⟨_, rfl⟩
  obtain ⟨HE, hHE⟩ : ∃ HE : Heap, HE = [.cells [BP] false, .cells [.b false] false, .cells [.i .i64 0] false, .cells [.i .u64 (u : Int)] false] := ⟨_, rfl⟩
  obtain ⟨HG, hHG⟩ : ∃ HG : Heap, HG = HE ++ [.cells [.i .u64 (left : Int)] false] := ⟨_, rfl⟩
  have alA : dkc pg (den pg) (.alloc [.b false] false) [] H0 = some (.ref 1 0, HA) := by rw [hH0, hHA]; rfl
  have alB : dkc pg (den pg) (.alloc [.i .i64 0] false) [] HA = some (.ref 2 0, HB) := by rw [hHA, hHB]; rfl
  have stB : dkc pg (den pg) (.st 1) [.ref 2 0, .i .i64 0] HB = some (.undef, HB) := by rw [hHB]; exact st_box (id := 2) rfl rfl
  have alC : dkc pg (den pg) (.alloc [.i .u64 0] false) [] HB = some (.ref 3 0, HC) := by rw [hHB, hHC]; rfl
  have stC : dkc pg (den pg) (.st 1) [.ref 3 0, .i .u64 ((left ||| 2 ^ at_ : Nat) : Int)] HC = some (.undef, HD) := by rw [hHC, hHD]; exact st_box (id := 3) rfl rfl
  have ldD : dkc pg (den pg) (.ld 1 false) [.ref 3 0] HD = some (.i .u64 ((left ||| 2 ^ at_ : Nat) : Int), HD) := by rw [hHD]; exact ld_box (id := 3) rfl rfl
  have stD : dkc pg (den pg) (.st 1) [.ref 3 0, .i .u64 (u : Int)] HD = some (.undef, HE) := by rw [hHD, hHE]; exact st_box (id := 3) rfl rfl
  have b63 := body63 (pg := pg) hF left HE
  have lHE : HE.length = 4 := by rw [hHE]; rfl
  have lHG : HG.length = 5 := by rw [hHG, hHE]; rfl
  rw [← hHG, lHE] at b63
  have wa := wrap_u (m := at_) (by omega)
  have wf := wrap_u (m := first) (by omega)
  have sha := Dn.shl_u (k := .u64) (c := at_) (by omega)
  have shf := Dn.shl_u (k := .u64) (c := first) (by omega)
  have o1 := or_uu (m := left) (k := 2 ^ at_) (by omega) (by omega)
  have o2 := or_uu (m := left ||| 2 ^ at_) (k := 2 ^ first) (by omega) (by omega)
  obtain ⟨L, hL⟩ : ∃ L, L = lp1 a90_0 b90_1 31 [1, 3, 5, 10, 11, 12, 13] [(1, .i .i64 (at_ : Int)), (3, .i .u64 (left : Int)), (5, .ref 0 0), (10, .ref 1 0), (11, .ref 2 0), (12, .ref 3 0), (13, .i .i64 (lim : Int)), (30, .fn 93 [] [.ref 4 0])] := ⟨_, rfl⟩
  have hkeep : keepE [1, 3, 5, 10, 11, 12, 13] ([(1, .i .i64 (at_ : Int)), (3, .i .u64 (left : Int)), (5, .ref 0 0), (10, .ref 1 0), (11, .ref 2 0), (12, .ref 3 0), (13, .i .i64 (lim : Int)), (30, .fn 93 [] [.ref 4 0])] : Env) = [(1, .i .i64 (at_ : Int)), (3, .i .u64 (left : Int)), (5, .ref 0 0), (10, .ref 1 0), (11, .ref 2 0), (12, .ref 3 0), (13, .i .i64 (lim : Int))] := rfl
  have hS0 : HS BP u (HG ++ [.loop L]) 0 false := by rw [hHG, hHE]; exact ⟨rfl, rfl, rfl, rfl, by simp⟩
  have hml : (mem64 left).length ≤ 64 := by rw [mem64_len]; exact pop_le 64 left
  rw [hBP] at hS0
  have hrun := rng hF (f := 30) (s := 4) (p := 31) (as_ := a90_0) (bd := b90_1) (ks := [1, 3, 5, 10, 11, 12, 13]) (e := [(1, .i .i64 (at_ : Int)), (3, .i .u64 (left : Int)), (5, .ref 0 0), (10, .ref 1 0), (11, .ref 2 0), (12, .ref 3 0), (13, .i .i64 (lim : Int)), (30, .fn 93 [] [.ref 4 0])]) (H := HG) (x := left) rfl (by rw [hHG, ← lHE]; exact getLast _ _) (by omega)
      (P := fun l K => ∃ n, HS (.bp bo (.agg (bM r c))) u K n false ∧ n + l.length ≤ 64 ∧ (∀ t, t ∈ l → t < r * c) ∧ endsL r c u l n = endsL r c u (mem64 left) 0)
      (Q := fun x K => x = .ret ∧ ∃ n, endsL r c u (mem64 left) 0 = none ∧ HS (.bp bo (.agg (bM r c))) u K n true) (by rw [← hL]; exact ⟨0, hS0, by omega, fun t ht => mem64_in hl ht, rfl⟩)
      (fun l K cc ⟨n, g1, g2, g3, g4⟩ => ⟨n, g1.set (by omega) _, g2, g3, g4⟩) (by rw [lHG, ← hL]; exact hope_round hF h hul hL hkeep)
  rw [lHG, ← hL, hkeep] at hrun
  -- what stands at the end
  have fin_of : ∀ (e : Env) (K : Heap) (v : Bool) (n : Nat), go pg (den pg) [.c c90] .normal [(0, BP), (1, .i .i64 (at_ : Int)), (2, .i .i64 (first : Int)), (3, .i .u64 (left : Int)), (4, .b closed)] [] = some ⟨.ret, e, K⟩ → Dn.get e 10 = some (.ref 1 0) → K[1]? = some (.cells [.b v] false) →
      PFn pg 90 [BP, .i .i64 (at_ : Int), .i .i64 (first : Int), .i .u64 (left : Int), .b closed] (.b v) := by
    intro e K v n g1 g2 g3
    refine .of_go (x := .ret) (e := e) (H' := K) (vs := [.b v]) (hF.S _ _ (by decide)) (d := d90) (by rw [hF.F]; rfl) rfl (by simpa [d90, zipE] using g1) (.inl rfl) ?_ (by simp [sn_i, sn_b, sn_nil, sn8_i, sn8_b, sn8_nil, sn7_i, sn7_b, sn_sl, sn8_sl, slB_some, sn_tup, sn_agg, sn8_agg, mapO, elems, tupR])
    have := ld_box (pg := pg) (R := den pg) g3 rfl
    have h2 : dk (.ld 1 false) [.ref 1 0] K = some (.b v, K) := this
    simp [d90, mapO, resRun, g2, h2]
  rw [← hBP]
  rcases hrun with ⟨H6, r1, n, g1, g0, _, g2⟩ | ⟨x, H6, hx, r1, rfl, n, g1, g2⟩
  · have g2' : some n = endsL r c u (mem64 left) 0 := g2
    rw [← g2']
    obtain ⟨H7, hH7⟩ : ∃ H7, H7 = H6.set 5 (.loop { L with st := .exhausted }) := ⟨_, rfl⟩
    rw [← hH7] at r1
    have g7 : HS (.bp bo (.agg (bM r c))) u H7 n false := by rw [hH7]; exact g1.set (by omega) _
    have l2 := ld_box (pg := pg) (R := den pg) g7.a2 rfl
    have hlen1 := (List.getElem?_eq_some_iff.1 g7.a1).1
    show PFn pg 90 _ (.b (if lim < n then true else decide (growH r c left 40 (2 ^ at_) &&& left ≠ left)))
    by_cases hlt : lim < n
    · rw [if_pos hlt]
      have st := st_box (pg := pg) (R := den pg) (v := .b true) g7.a1 rfl
      have hgt : decide ((lim : Int) < (n : Int)) = true := dT (by omega)
      refine fin_of [(10, .ref 1 0)] (H7.set 1 (.cells [.b true] false)) true n ?_ rfl (by rw [List.getElem?_set_self hlen1])
      obtain ⟨H8, hH8⟩ : ∃ H8, H8 = H7.set 1 (.cells [.b true] false) := ⟨_, rfl⟩
      rw [← hH8] at st ⊢
      cases closed with
      | true =>
        obtain rfl : lim = 0 := hlim
        simp only [Int.natCast_zero] at r1 hgt
        have hu' : u = (left ||| 2 ^ at_) ||| 2 ^ first := hu
        rw [← hu'] at o2
        skip
        generalize left ||| 2 ^ at_ = U1 at *
        generalize 2 ^ at_ = W1 at *
        generalize 2 ^ first = W2 at *
        simp (disch := omega) [c90, go_nil, go_last, go_past, go_pastR, go_blkN, go_blkR, go_blkE, go_skip, go_exit, go_ret, go_scope, go_seq, go_reg, go_regd, go_opdN, go_opd, go_opdG, grdd_b, grdd_u, stpd_some, find_some, go_block, go_cond, cnd_b, go_opsN, go_ops, go_opsG, grd_b, grd_u, stp_some, fin_some, up_some, cont_some, k_call, k_mv, k_pick, k_bin, k_eqB, k_eqA, k_not, k_neg, k_conv, k_alloc, k_boxA, k_boxI, k_boxB, k_boxN, k_boxBs, k_ldR, k_ldA, k_ldI, k_ldB, k_stA, k_stI, k_stB, ldC_some, stC_some, k_mkfn, k_slc, k_slcA, k_ixA, k_ixBs, k_ixSl, k_fadr, k_fld, k_ext, k_len, k_app, k_mn, k_mx, k_nilck, k_build, k_bsl1, k_bsl2, b_add, b_sub, b_mul, b_eql, b_neq, b_lss, b_leq, b_gtr, b_geq, Dn.setLast, Dn.getLast, evalO, mapO, Dn.get, putE, keepE_nil, keepE_cons, kp_some, kp_none, TV.one, TV.isAgg, Dn.part, k_boxR, negb, at0, at1, at2, at3, at4, dT, dF, wrapR_i64, Option.bind_some, Option.map_some, kb, alA, alB, stB, alC, stC, ldD, stD, wa, wf, sha, shf, o1, o2, sh_fn, b63, r1, l2, hgt, st]
      | false =>
        obtain rfl : lim = 1 := hlim
        simp only [Int.natCast_one] at r1 hgt
        have hu' : u = left ||| 2 ^ at_ := hu
        have hDE : HD = HE := by rw [hHD, hHE, hu']
        rw [hDE] at stC
        skip
        generalize left ||| 2 ^ at_ = U1 at *
        generalize 2 ^ at_ = W1 at *
        generalize 2 ^ first = W2 at *
        simp (disch := omega) [c90, go_nil, go_last, go_past, go_pastR, go_blkN, go_blkR, go_blkE, go_skip, go_exit, go_ret, go_scope, go_seq, go_reg, go_regd, go_opdN, go_opd, go_opdG, grdd_b, grdd_u, stpd_some, find_some, go_block, go_cond, cnd_b, go_opsN, go_ops, go_opsG, grd_b, grd_u, stp_some, fin_some, up_some, cont_some, k_call, k_mv, k_pick, k_bin, k_eqB, k_eqA, k_not, k_neg, k_conv, k_alloc, k_boxA, k_boxI, k_boxB, k_boxN, k_boxBs, k_ldR, k_ldA, k_ldI, k_ldB, k_stA, k_stI, k_stB, ldC_some, stC_some, k_mkfn, k_slc, k_slcA, k_ixA, k_ixBs, k_ixSl, k_fadr, k_fld, k_ext, k_len, k_app, k_mn, k_mx, k_nilck, k_build, k_bsl1, k_bsl2, b_add, b_sub, b_mul, b_eql, b_neq, b_lss, b_leq, b_gtr, b_geq, Dn.setLast, Dn.getLast, evalO, mapO, Dn.get, putE, keepE_nil, keepE_cons, kp_some, kp_none, TV.one, TV.isAgg, Dn.part, k_boxR, negb, at0, at1, at2, at3, at4, dT, dF, wrapR_i64, Option.bind_some, Option.map_some, kb, alA, alB, stB, alC, stC, wa, wf, sha, shf, o1, sh_fn, b63, r1, l2, hgt, st]
    · rw [if_neg hlt]
      have hgt : decide ((lim : Int) < (n : Int)) = false := dF (by omega)
      have hun := untr_le (r * c) (2 ^ at_)
      obtain ⟨e3, k1, k2⟩ := l90_3_all (pg := pg) hF h hl g7.a0 ⟨bo, rfl⟩ 40 (2 ^ at_) h2a (by omega)
      obtain ⟨q1, q2, q3⟩ := growH_fix h hl 40 (2 ^ at_) h2a (by omega)
      have a1 := and_uu (m := growH r c left 40 (2 ^ at_)) (k := left) (by omega) (by omega)
      have hand : growH r c left 40 (2 ^ at_) &&& left < 2 ^ (r * c) := Nat.lt_of_le_of_lt Nat.and_le_right hl
      obtain ⟨G, hG⟩ : ∃ G, G = growH r c left 40 (2 ^ at_) := ⟨_, rfl⟩
      rw [← hG] at k2 a1 hand ⊢
      have i3 := keep_get k2 (s := 3) (by simp) rfl
      have i10 := keep_get k2 (s := 10) (by simp) rfl
      have i15 := keep_get k2 (s := 15) (by simp) rfl
      have hne : (((G &&& left : Nat) : Int) != (left : Int)) = decide (G &&& left ≠ left) := by
        by_cases hq : G &&& left = left
        · rw [dF (by simpa using hq)]; exact bneF (by omega)
        · rw [dT hq]; exact bneT (by omega)
      generalize decide (G &&& left ≠ left) = V at *
      generalize G &&& left = GL at *
      have st := st_box (pg := pg) (R := den pg) (v := .b V) g7.a1 rfl
      refine fin_of [(10, .ref 1 0)] (H7.set 1 (.cells [.b V] false)) V n ?_ rfl (by rw [List.getElem?_set_self hlen1])
      obtain ⟨H8, hH8⟩ : ∃ H8, H8 = H7.set 1 (.cells [.b V] false) := ⟨_, rfl⟩
      rw [← hH8] at st ⊢
      cases closed with
      | true =>
        obtain rfl : lim = 0 := hlim
        simp only [Int.natCast_zero] at r1 hgt
        have hu' : u = (left ||| 2 ^ at_) ||| 2 ^ first := hu
        rw [← hu'] at o2
        skip
        generalize left ||| 2 ^ at_ = U1 at *
        generalize 2 ^ at_ = W1 at *
        generalize 2 ^ first = W2 at *
        simp (disch := omega) [c90, go_nil, go_last, go_past, go_pastR, go_blkN, go_blkR, go_blkE, go_skip, go_exit, go_ret, go_scope, go_seq, go_reg, go_regd, go_opdN, go_opd, go_opdG, grdd_b, grdd_u, stpd_some, find_some, go_block, go_cond, cnd_b, go_opsN, go_ops, go_opsG, grd_b, grd_u, stp_some, fin_some, up_some, cont_some, k_call, k_mv, k_pick, k_bin, k_eqB, k_eqA, k_not, k_neg, k_conv, k_alloc, k_boxA, k_boxI, k_boxB, k_boxN, k_boxBs, k_ldR, k_ldA, k_ldI, k_ldB, k_stA, k_stI, k_stB, ldC_some, stC_some, k_mkfn, k_slc, k_slcA, k_ixA, k_ixBs, k_ixSl, k_fadr, k_fld, k_ext, k_len, k_app, k_mn, k_mx, k_nilck, k_build, k_bsl1, k_bsl2, b_add, b_sub, b_mul, b_eql, b_neq, b_lss, b_leq, b_gtr, b_geq, Dn.setLast, Dn.getLast, evalO, mapO, Dn.get, putE, keepE_nil, keepE_cons, kp_some, kp_none, TV.one, TV.isAgg, Dn.part, k_boxR, negb, at0, at1, at2, at3, at4, dT, dF, wrapR_i64, Option.bind_some, Option.map_some, kb, alA, alB, stB, alC, stC, ldD, stD, wa, wf, sha, shf, o1, o2, sh_fn, b63, r1, l2, hgt, go_denK (c := l90_3) rfl, k1, i3, i10, i15, a1, hne, st]
      | false =>
        obtain rfl : lim = 1 := hlim
        simp only [Int.natCast_one] at r1 hgt
        have hu' : u = left ||| 2 ^ at_ := hu
        have hDE : HD = HE := by rw [hHD, hHE, hu']
        rw [hDE] at stC
        skip
        generalize left ||| 2 ^ at_ = U1 at *
        generalize 2 ^ at_ = W1 at *
        generalize 2 ^ first = W2 at *
        simp (disch := omega) [c90, go_nil, go_last, go_past, go_pastR, go_blkN, go_blkR, go_blkE, go_skip, go_exit, go_ret, go_scope, go_seq, go_reg, go_regd, go_opdN, go_opd, go_opdG, grdd_b, grdd_u, stpd_some, find_some, go_block, go_cond, cnd_b, go_opsN, go_ops, go_opsG, grd_b, grd_u, stp_some, fin_some, up_some, cont_some, k_call, k_mv, k_pick, k_bin, k_eqB, k_eqA, k_not, k_neg, k_conv, k_alloc, k_boxA, k_boxI, k_boxB, k_boxN, k_boxBs, k_ldR, k_ldA, k_ldI, k_ldB, k_stA, k_stI, k_stB, ldC_some, stC_some, k_mkfn, k_slc, k_slcA, k_ixA, k_ixBs, k_ixSl, k_fadr, k_fld, k_ext, k_len, k_app, k_mn, k_mx, k_nilck, k_build, k_bsl1, k_bsl2, b_add, b_sub, b_mul, b_eql, b_neq, b_lss, b_leq, b_gtr, b_geq, Dn.setLast, Dn.getLast, evalO, mapO, Dn.get, putE, keepE_nil, keepE_cons, kp_some, kp_none, TV.one, TV.isAgg, Dn.part, k_boxR, negb, at0, at1, at2, at3, at4, dT, dF, wrapR_i64, Option.bind_some, Option.map_some, kb, alA, alB, stB, alC, stC, wa, wf, sha, shf, o1, sh_fn, b63, r1, l2, hgt, go_denK (c := l90_3) rfl, k1, i3, i10, i15, a1, hne, st]
  · rw [g1]
    obtain ⟨H7, hH7⟩ : ∃ H7, H7 = H6.set 5 (.loop { L with st := .exhausted, pend := some .ret }) := ⟨_, rfl⟩
    rw [← hH7] at r1
    have g7 : HS (.bp bo (.agg (bM r c))) u H7 n true := by rw [hH7]; exact g2.set (by omega) _
    refine fin_of [(1, .i .i64 (at_ : Int)), (3, .i .u64 (left : Int)), (5, .ref 0 0), (10, .ref 1 0), (11, .ref 2 0), (12, .ref 3 0), (13, .i .i64 (lim : Int))] H7 true n ?_ rfl g7.a1
    cases closed with
    | true =>
      obtain rfl : lim = 0 := hlim
      simp only [Int.natCast_zero] at r1
      have hu' : u = (left ||| 2 ^ at_) ||| 2 ^ first := hu
      rw [← hu'] at o2
      skip
      generalize left ||| 2 ^ at_ = U1 at *
      generalize 2 ^ at_ = W1 at *
      generalize 2 ^ first = W2 at *
      simp (disch := omega) [c90, go_nil, go_last, go_past, go_pastR, go_blkN, go_blkR, go_blkE, go_skip, go_exit, go_ret, go_scope, go_seq, go_reg, go_regd, go_opdN, go_opd, go_opdG, grdd_b, grdd_u, stpd_some, find_some, go_block, go_cond, cnd_b, go_opsN, go_ops, go_opsG, grd_b, grd_u, stp_some, fin_some, up_some, cont_some, k_call, k_mv, k_pick, k_bin, k_eqB, k_eqA, k_not, k_neg, k_conv, k_alloc, k_boxA, k_boxI, k_boxB, k_boxN, k_boxBs, k_ldR, k_ldA, k_ldI, k_ldB, k_stA, k_stI, k_stB, ldC_some, stC_some, k_mkfn, k_slc, k_slcA, k_ixA, k_ixBs, k_ixSl, k_fadr, k_fld, k_ext, k_len, k_app, k_mn, k_mx, k_nilck, k_build, k_bsl1, k_bsl2, b_add, b_sub, b_mul, b_eql, b_neq, b_lss, b_leq, b_gtr, b_geq, Dn.setLast, Dn.getLast, evalO, mapO, Dn.get, putE, keepE_nil, keepE_cons, kp_some, kp_none, TV.one, TV.isAgg, Dn.part, k_boxR, negb, at0, at1, at2, at3, at4, dT, dF, wrapR_i64, Option.bind_some, Option.map_some, kb, alA, alB, stB, alC, stC, ldD, stD, wa, wf, sha, shf, o1, o2, sh_fn, b63, r1]
    | false =>
      obtain rfl : lim = 1 := hlim
      simp only [Int.natCast_one] at r1
      have hu' : u = left ||| 2 ^ at_ := hu
      have hDE : HD = HE := by rw [hHD, hHE, hu']
      rw [hDE] at stC
      skip
      generalize left ||| 2 ^ at_ = U1 at *
      generalize 2 ^ at_ = W1 at *
      generalize 2 ^ first = W2 at *
      simp (disch := omega) [c90, go_nil, go_last, go_past, go_pastR, go_blkN, go_blkR, go_blkE, go_skip, go_exit, go_ret, go_scope, go_seq, go_reg, go_regd, go_opdN, go_opd, go_opdG, grdd_b, grdd_u, stpd_some, find_some, go_block, go_cond, cnd_b, go_opsN, go_ops, go_opsG, grd_b, grd_u, stp_some, fin_some, up_some, cont_some, k_call, k_mv, k_pick, k_bin, k_eqB, k_eqA, k_not, k_neg, k_conv, k_alloc, k_boxA, k_boxI, k_boxB, k_boxN, k_boxBs, k_ldR, k_ldA, k_ldI, k_ldB, k_stA, k_stI, k_stB, ldC_some, stC_some, k_mkfn, k_slc, k_slcA, k_ixA, k_ixBs, k_ixSl, k_fadr, k_fld, k_ext, k_len, k_app, k_mn, k_mx, k_nilck, k_build, k_bsl1, k_bsl2, b_add, b_sub, b_mul, b_eql, b_neq, b_lss, b_leq, b_gtr, b_geq, Dn.setLast, Dn.getLast, evalO, mapO, Dn.get, putE, keepE_nil, keepE_cons, kp_some, kp_none, TV.one, TV.isAgg, Dn.part, k_boxR, negb, at0, at1, at2, at3, at4, dT, dF, wrapR_i64, Option.bind_some, Option.map_some, kb, alA, alB, stB, alC, stC, wa, wf, sha, shf, o1, sh_fn, b63, r1]

end Go.Proofs.Tryd.Dn

