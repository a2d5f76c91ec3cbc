/-
  Knight: a pairing with as many pairs as possible, in the program.
-/
import Derived.Test.YtdjbpmgbaggfbaaDoorKfb
set_option linter.unusedSimpArgs false
set_option linter.unusedVariables false

namespace Go.Proofs.Tryd.Dn
open Go.Dn

def mates0 : List Int := List.replicate 36 (-1)
def mateAll (r c : Nat) (l : List Nat) (M : List Int) : List Int := l.foldl (fun M s => (grow r c 37 M 0 s).2.1) M
def matesOf (r c : Nat) : List Int := mateAll r c (mem64 (colM r c 0)) mates0

theorem mates0_ok {n : Nat} : MOk n mates0 := by
  refine ⟨by simp [mates0], fun t ht => ?_⟩
  unfold mates0
  rw [List.getD_eq_getElem?_getD, List.getElem?_replicate, if_pos ht]
  show (-1 : Int) < (n : Int)
  omega

theorem mateAll_ok {r c : Nat} (h : Brd r c) : ∀ (l : List Nat) (M : List Int), (∀ s, s ∈ l → s < r * c) → MOk (r * c) M → MOk (r * c) (mateAll r c l M)
  | [], M, _, hM => hM
  | s :: l, M, hl, hM => mateAll_ok h l _ (fun x hx => hl x (by simp [hx])) (grow_ok h 37 M 0 s hM (Nat.two_pow_pos _) (hl s (by simp))).m

theorem matesOf_ok {r c : Nat} (h : Brd r c) : MOk (r * c) (matesOf r c) := mateAll_ok h _ _ (fun s hs => mem64_in (colM_lt r c 0) hs) mates0_ok

theorem untr_le (n tr : Nat) : untr n tr ≤ n := by
  unfold untr
  exact Nat.le_trans List.countP_le_length (by simp)

structure PS (r c P lp : Nat) (BV : TV) (H0 H : Heap) (M : List Int) (tr : Nat) : Prop where
  p : H[P]? = some (.cells (pC BV M tr) true)
  p1 : H[P + 1]? = some (.cells [.ref P 0] false)
  p2 : H[P + 2]? = some (.cells [.fn 96 [.ref P 0] []] false)
  len : lp < H.length
  old : ∀ j, j < P → H[j]? = H0[j]?
  mok : MOk (r * c) M

theorem PS.set {r c P lp : Nat} {BV : TV} {H0 H : Heap} {M : List Int} {tr : Nat} (h : PS r c P lp BV H0 H M tr) {j : Nat} (hj : P + 3 ≤ j) (o : AObj) : PS r c P lp BV H0 (H.set j o) M tr :=
  ⟨by rw [List.getElem?_set_ne (by omega)]; exact h.p, by rw [List.getElem?_set_ne (by omega)]; exact h.p1, by rw [List.getElem?_set_ne (by omega)]; exact h.p2, by simpa using h.len,
    fun k hk => by rw [List.getElem?_set_ne (by omega)]; exact h.old k hk, h.mok⟩

theorem paired_round {pg : Pg} (hF : Free pg) {r c P lp : Nat} {BV : TV} (h : Brd r c) (hlp : lp = P + 4) {H0 : Heap} (hB0 : BOk r c H0 BV) (hBP : ∀ id, BV = .ref id 0 → id < P)
    {L : ALoop} {e : Env} (hL : L = lp1 a74_2 b74_3 24 [3, 5] e) (he : keepE [3, 5] e = [(3, .ref (P + 1) 0), (5, .ref (P + 2) 0)]) {o : List Int} :
    Rnd pg lp (P + 3) L (fun l H => ∃ M tr, PS r c P lp BV H0 H M tr ∧ (∀ t, t ∈ l → t < r * c) ∧ mateAll r c l M = o) (fun _ _ => False) := by
  rintro s rest H ⟨M, tr, hS, hts, ho⟩ hlpc hk
  have hn := h.n36
  have hs := hts s (by simp)
  have hml := hS.mok.1
  obtain ⟨HB, hHB⟩ : ∃ HB, HB = H.set lp (.loop { L with st := .busy }) := ⟨_, rfl⟩
  have pB : PS r c P lp BV H0 HB M tr := by rw [hHB]; exact hS.set (by omega) _
  have hlB : HB[lp]? = some (.loop { L with st := .busy }) := by rw [hHB, List.getElem?_set_self hS.len]
  have hsB : HB[P + 3]? = H[P + 3]? := by rw [hHB, List.getElem?_set_ne (by omega)]
  have hLe : L.env = [(3, .ref (P + 1) 0), (5, .ref (P + 2) 0)] := by rw [hL]; exact he
  have hLa : L.assign = a74_2 := by rw [hL]; rfl
  have hLb : L.body = b74_3 := by rw [hL]; rfl
  have hLp : L.params = [24] := by rw [hL]; rfl
  have ha1 : den pg L.assign ((L.params.zip [.i .i64 (s : Int)]).reverse ++ L.env) H = some ⟨.normal, [(3, .ref (P + 1) 0), (5, .ref (P + 2) 0), (6, .i .i64 (s : Int))], H⟩ := by
    rw [hLe, hLa, hLp, den_eq, runC_go]
    simp [a74_2, go_nil, go_last, go_past, go_pastR, go_blkN, go_blkR, go_blkE, go_skip, go_exit, go_ret, go_scope, go_seq, go_reg, go_regd, go_opdN, go_opd, go_opdG, grdd_b, grdd_u, stpd_some, find_some, go_block, go_cond, cnd_b, go_opsN, go_ops, go_opsG, grd_b, grd_u, stp_some, fin_some, up_some, cont_some, k_call, k_mv, k_pick, k_bin, k_eqB, k_eqA, k_not, k_neg, k_conv, k_alloc, k_boxA, k_boxI, k_boxB, k_boxN, k_boxBs, k_ldR, k_ldA, k_ldI, k_ldB, k_stA, k_stI, k_stB, ldC_some, stC_some, k_mkfn, k_slc, k_slcA, k_ixA, k_ixBs, k_ixSl, k_fadr, k_fld, k_ext, k_len, k_app, k_mn, k_mx, k_nilck, k_build, k_bsl1, k_bsl2, b_add, b_sub, b_mul, b_eql, b_neq, b_lss, b_leq, b_gtr, b_geq, Dn.setLast, Dn.getLast, evalO, mapO, Dn.get, putE, keepE, TV.one, TV.isAgg, Dn.part]
  have l1 := ld_box (pg := pg) (R := den pg) pB.p1 rfl
  have stT := st_pT (pg := pg) (R := den pg) pB.p hml 0
  have hPl := (List.getElem?_eq_some_iff.1 pB.p).1
  obtain ⟨H1, hH1⟩ : ∃ H1, H1 = HB.set P (.cells (pC BV M 0) true) := ⟨_, rfl⟩
  rw [← hH1] at stT
  have q0 : H1[P]? = some (.cells (pC BV M 0) true) := by rw [hH1, List.getElem?_set_self hPl]
  have q1 : H1[P + 1]? = some (.cells [.ref P 0] false) := by rw [hH1, List.getElem?_set_ne (by omega)]; exact pB.p1
  have q2 : H1[P + 2]? = some (.cells [.fn 96 [.ref P 0] []] false) := by rw [hH1, List.getElem?_set_ne (by omega)]; exact pB.p2
  have ql : lp < H1.length := by rw [hH1]; simpa using pB.len
  have qo : ∀ j, j < P → H1[j]? = H0[j]? := fun j hj => by rw [hH1, List.getElem?_set_ne (by omega)]; exact pB.old j hj
  have l2 := ld_box (pg := pg) (R := den pg) q2 rfl
  have hBO : BOk r c H1 BV := hB0.mono fun id hid => qo id (hBP id hid)
  obtain ⟨H', g1, g2, g3, g4⟩ := body96 (pg := pg) hF h (P := P) (BV := BV) (fun id hid => by have := hBP id hid; omega) 37 H1 M 0 s q0 hBO hS.mok (Nat.two_pow_pos _) hs (by have := untr_le (r * c) 0; omega)
  have gk := grow_ok h 37 M 0 s hS.mok (Nat.two_pow_pos _) hs
  have ho' : mateAll r c rest (grow r c 37 M 0 s).2.1 = o := ho
  generalize grow r c 37 M 0 s = oo at *
  obtain ⟨ok, M2, tr2⟩ := oo
  have g1' : callRun pg (den pg) .sh [.fn 96 [.ref P 0] [], .i .i64 (s : Int)] H1 = some (.b ok, H') := by rw [sh_fn]; exact g1
  have fd : ∀ (K : Heap) (o sz : Nat) (ag : Bool), dkc pg (den pg) (.fadr o sz ag) [.ref P 0] K = some (.ref P o, K) := fun K o sz ag => by rw [k_fadr]; simp
  have hl' : H'[lp]? = some (.loop { L with st := .busy }) := by rw [g4 lp (by omega) (by omega), hH1, List.getElem?_set_ne (by omega)]; exact hlB
  have hbd : den pg L.body [(3, .ref (P + 1) 0), (5, .ref (P + 2) 0), (6, .i .i64 (s : Int))] HB = some ⟨.normal, [], H'⟩ := by
    rw [hLb, den_eq, runC_go]
    simp only [Int.natCast_zero] at stT
    simp (disch := omega) [b74_3, go_nil, go_last, go_past, go_pastR, go_blkN, go_blkR, go_blkE, go_skip, go_exit, go_ret, go_scope, go_seq, go_reg, go_regd, go_opdN, go_opd, go_opdG, grdd_b, grdd_u, stpd_some, find_some, go_block, go_cond, cnd_b, go_opsN, go_ops, go_opsG, grd_b, grd_u, stp_some, fin_some, up_some, cont_some, k_call, k_mv, k_pick, k_bin, k_eqB, k_eqA, k_not, k_neg, k_conv, k_alloc, k_boxA, k_boxI, k_boxB, k_boxN, k_boxBs, k_ldR, k_ldA, k_ldI, k_ldB, k_stA, k_stI, k_stB, ldC_some, stC_some, k_mkfn, k_slc, k_slcA, k_ixA, k_ixBs, k_ixSl, k_fadr, k_fld, k_ext, k_len, k_app, k_mn, k_mx, k_nilck, k_build, k_bsl1, k_bsl2, b_add, b_sub, b_mul, b_eql, b_neq, b_lss, b_leq, b_gtr, b_geq, Dn.setLast, Dn.getLast, evalO, mapO, Dn.get, putE, keepE_nil, keepE_cons, kp_some, kp_none, TV.one, TV.isAgg, Dn.part, k_boxR, negb, at0, at1, at2, at3, at4, dT, dF, wrapR_i64, Option.bind_some, Option.map_some, l1, fd, stT, l2, g1']
  refine .inl ⟨H'.set lp (.loop L), Body.of ha1 hlpc (by rw [← hHB]; exact hbd) hl', ⟨M2, tr2, PS.set ⟨g2, by rw [g4 _ (by omega) (by omega)]; exact q1, by rw [g4 _ (by omega) (by omega)]; exact q2, by omega, fun j hj => by rw [g4 j (by omega) (by omega)]; exact qo j hj, gk.m⟩ (by omega) _, fun t ht => hts t (by simp [ht]), ho'⟩, ?_⟩
  rw [List.getElem?_set_ne (by omega), g4 _ (by omega) (by omega), hH1, List.getElem?_set_ne (by omega)]
  exact hsB

theorem l74_1_all {pg : Pg} {P : Nat} {BV : TV} : ∀ (d k : Nat) (H : Heap), k + d = 36 → H[P]? = some (.cells (pC BV (List.replicate k (-1) ++ List.replicate d 0) 0) true) → H[P + 1]? = some (.cells [.ref P 0] false) →
    ∃ e, den pg l74_1 [(0, BV), (3, .ref (P + 1) 0), (10, .i .i64 (k : Int))] H = some ⟨.exit 0, e, H.set P (.cells (pC BV mates0 0) true)⟩ ∧ keepE [0, 3] e = [(0, BV), (3, .ref (P + 1) 0)]
  | 0, k, H, hd, hp, hp1 => by
    obtain rfl : k = 36 := by omega
    have hm : List.replicate 36 (-1 : Int) ++ List.replicate 0 0 = mates0 := by simp [mates0]
    rw [hm] at hp
    rw [set_cell hp]
    exact ⟨_, by
      rw [l74_1, den_loop]
      simp (disch := omega) [b74_0, go_nil, go_last, go_past, go_pastR, go_blkN, go_blkR, go_blkE, go_skip, go_exit, go_ret, go_scope, go_seq, go_reg, go_regd, go_opdN, go_opd, go_opdG, grdd_b, grdd_u, stpd_some, find_some, go_block, go_cond, cnd_b, go_opsN, go_ops, go_opsG, grd_b, grd_u, stp_some, fin_some, up_some, cont_some, k_call, k_mv, k_pick, k_bin, k_eqB, k_eqA, k_not, k_neg, k_conv, k_alloc, k_boxA, k_boxI, k_boxB, k_boxN, k_boxBs, k_ldR, k_ldA, k_ldI, k_ldB, k_stA, k_stI, k_stB, ldC_some, stC_some, k_mkfn, k_slc, k_slcA, k_ixA, k_ixBs, k_ixSl, k_fadr, k_fld, k_ext, k_len, k_app, k_mn, k_mx, k_nilck, k_build, k_bsl1, k_bsl2, b_add, b_sub, b_mul, b_eql, b_neq, b_lss, b_leq, b_gtr, b_geq, Dn.setLast, Dn.getLast, evalO, mapO, Dn.get, putE, keepE_nil, keepE_cons, kp_some, kp_none, TV.one, TV.isAgg, Dn.part, k_boxR, negb, at0, at1, at2, at3, at4, dT, dF, wrapR_i64, Option.bind_some, Option.map_some]
      rfl, rfl⟩
  | d + 1, k, H, hd, hp, hp1 => by
    have hPl := (List.getElem?_eq_some_iff.1 hp).1
    have l1 := ld_box (pg := pg) (R := den pg) hp1 rfl
    have ix := fun K => ix_p (pg := pg) (R := den pg) (P := P) (H := K) (t := k) (by omega) .i64
    have st := st_pM (pg := pg) (R := den pg) hp (t := k) (by simp) (-1)
    have hs : (List.replicate k (-1 : Int) ++ List.replicate (d + 1) 0).set k (-1) = List.replicate (k + 1) (-1) ++ List.replicate d 0 := by
      rw [List.set_append_right _ _ (by simp), List.length_replicate, Nat.sub_self, List.replicate_succ, List.set_cons_zero, List.replicate_succ']
      simp
    rw [hs] at st
    obtain ⟨e, e1, e2⟩ := l74_1_all (pg := pg) (P := P) (BV := BV) d (k + 1) (H.set P (.cells (pC BV (List.replicate (k + 1) (-1) ++ List.replicate d 0) 0) true)) (by omega) (by rw [List.getElem?_set_self hPl]) (by rw [List.getElem?_set_ne (by omega)]; exact hp1)
    rw [List.set_set] at e1
    refine ⟨e, Eq.trans ?_ e1, e2⟩
    have fd : ∀ (K : Heap) (o sz : Nat) (ag : Bool), dkc pg (den pg) (.fadr o sz ag) [.ref P 0] K = some (.ref P o, K) := fun K o sz ag => by rw [k_fadr]; simp
    generalize pC BV (List.replicate (k + 1) (-1) ++ List.replicate d 0) 0 = CC at *
    rw [l74_1, den_loop]
    simp (disch := omega) [l74_1, b74_0, go_nil, go_last, go_past, go_pastR, go_blkN, go_blkR, go_blkE, go_skip, go_exit, go_ret, go_scope, go_seq, go_reg, go_regd, go_opdN, go_opd, go_opdG, grdd_b, grdd_u, stpd_some, find_some, go_block, go_cond, cnd_b, go_opsN, go_ops, go_opsG, grd_b, grd_u, stp_some, fin_some, up_some, cont_some, k_call, k_mv, k_pick, k_bin, k_eqB, k_eqA, k_not, k_neg, k_conv, k_alloc, k_boxA, k_boxI, k_boxB, k_boxN, k_boxBs, k_ldR, k_ldA, k_ldI, k_ldB, k_stA, k_stI, k_stB, ldC_some, stC_some, k_mkfn, k_slc, k_slcA, k_ixA, k_ixBs, k_ixSl, k_fadr, k_fld, k_ext, k_len, k_app, k_mn, k_mx, k_nilck, k_build, k_bsl1, k_bsl2, b_add, b_sub, b_mul, b_eql, b_neq, b_lss, b_leq, b_gtr, b_geq, Dn.setLast, Dn.getLast, evalO, mapO, Dn.get, putE, keepE_nil, keepE_cons, kp_some, kp_none, TV.one, TV.isAgg, Dn.part, k_boxR, negb, at0, at1, at2, at3, at4, dT, dF, wrapR_i64, Option.bind_some, Option.map_some, l1, fd, ix, st]

theorem body74 {pg : Pg} (hF : Free pg) {r c : Nat} {BV : TV} (h : Brd r c) {H : Heap} (hB : BOk r c H BV) :
    ∃ H' tr, bodyRun pg (den pg) 74 [BV] H = some (.ref H.length 0, H') ∧ H'[H.length]? = some (.cells (pC BV (matesOf r c) tr) true) ∧ H.length < H'.length ∧ ∀ j, j < H.length → H'[j]? = H[j]? := by
  have hn := h.n36
  obtain ⟨P, hP⟩ : ∃ P, P = H.length := ⟨_, rfl⟩
  have hz : pC BV (List.replicate 0 (-1) ++ List.replicate 36 0) 0 = BV :: List.replicate 36 (.i .i64 0) ++ [.i .u64 0] := by simp [pC]
  obtain ⟨hB1, hB2⟩ := hB.one
  have hcells : BV.cells = [BV] := by cases BV <;> simp_all [TV.cells, TV.one]
  have hbu : dkc pg (den pg) (.build [.nilp, (.i .i64 0), (.i .i64 0), (.i .i64 0), (.i .i64 0), (.i .i64 0), (.i .i64 0), (.i .i64 0), (.i .i64 0), (.i .i64 0), (.i .i64 0), (.i .i64 0), (.i .i64 0), (.i .i64 0), (.i .i64 0), (.i .i64 0), (.i .i64 0), (.i .i64 0), (.i .i64 0), (.i .i64 0), (.i .i64 0), (.i .i64 0), (.i .i64 0), (.i .i64 0), (.i .i64 0), (.i .i64 0), (.i .i64 0), (.i .i64 0), (.i .i64 0), (.i .i64 0), (.i .i64 0), (.i .i64 0), (.i .i64 0), (.i .i64 0), (.i .i64 0), (.i .i64 0), (.i .i64 0), (.i .u64 0)] [(0, 1)]) [BV] H = some (.agg (pC BV (List.replicate 0 (-1) ++ List.replicate 36 0) 0), H) := by
    rw [hz, k_build]
    simp only [fillP, hcells, List.length_singleton, List.all_cons, hB1, List.all_nil, Bool.and_true, List.length_cons, List.length_nil, true_and, put2, List.take_zero, List.nil_append, List.drop_succ_cons, List.drop_zero, Nat.zero_add]
    rfl
  obtain ⟨H1, hH1⟩ : ∃ H1 : Heap, H1 = H ++ [.cells (pC BV (List.replicate 0 (-1) ++ List.replicate 36 0) 0) true] := ⟨_, rfl⟩
  have hall : (pC BV (List.replicate 0 (-1) ++ List.replicate 36 0) 0).all TV.one = true := by
    rw [hz]
    simp only [List.cons_append, List.all_cons, hB1, Bool.true_and, List.all_append]
    rfl
  have hbx : dkc pg (den pg) (.box true) [.agg (pC BV (List.replicate 0 (-1) ++ List.replicate 36 0) 0)] H = some (.ref P 0, H1) := by
    rw [k_boxA _ _ hall, hH1, hP]
  have l1 : H1.length = P + 1 := by rw [hH1, hP]; simp
  obtain ⟨H2, hH2⟩ : ∃ H2 : Heap, H2 = H1 ++ [.cells [.ref P 0] false] := ⟨_, rfl⟩
  have l2 : H2.length = P + 2 := by rw [hH2]; simp [l1]
  have st3 : stC (H1 ++ [.cells [.nilp] false])[P + 1]? 1 (P + 1) 0 [.ref P 0] (H1 ++ [.cells [.nilp] false]) = some (.undef, H2) := by
    rw [← l1, getLast, stC_some, if_pos ⟨rfl, rfl, by simp⟩, Dn.setLast, hH2]
    rfl
  have st3' : dkc pg (den pg) (.st 1) [.ref (P + 1) 0, .ref P 0] (H1 ++ [.cells [.nilp] false]) = some (.undef, H2) := by
    have := st_box (pg := pg) (R := den pg) (H := H1 ++ [.cells [.nilp] false]) (id := P + 1) (u := .nilp) (ag := false) (v := .ref P 0) (by rw [← l1]; exact getLast _ _) rfl
    rw [this, ← l1, Dn.setLast, hH2]
  have hp2 : H2[P]? = some (.cells (pC BV (List.replicate 0 (-1) ++ List.replicate 36 0) 0) true) := by rw [hH2, List.getElem?_append_left (by omega), hH1, hP]; exact getLast _ _
  have hp21 : H2[P + 1]? = some (.cells [.ref P 0] false) := by rw [hH2, ← l1]; exact getLast _ _
  obtain ⟨e1, k1, k2⟩ := l74_1_all (pg := pg) (P := P) (BV := BV) 36 0 H2 (by omega) hp2 hp21
  simp only [Int.natCast_zero] at k1
  have g0 := keep_get k2 (s := 0) (by simp) rfl
  have g3 := keep_get k2 (s := 3) (by simp) rfl
  obtain ⟨H3, hH3⟩ : ∃ H3, H3 = H2.set P (.cells (pC BV mates0 0) true) := ⟨_, rfl⟩
  rw [← hH3] at k1
  have l3 : H3.length = P + 2 := by rw [hH3]; simp [l2]
  have hp31 : H3[P + 1]? = some (.cells [.ref P 0] false) := by rw [hH3, List.getElem?_set_ne (by omega)]; exact hp21
  have ld3 := ld_box (pg := pg) (R := den pg) hp31 rfl
  obtain ⟨H4, hH4⟩ : ∃ H4 : Heap, H4 = H3 ++ [.cells [.fn 96 [.ref P 0] []] false] := ⟨_, rfl⟩
  have l4 : H4.length = P + 3 := by rw [hH4]; simp [l3]
  have st5 : dkc pg (den pg) (.st 1) [.ref (P + 2) 0, .fn 96 [.ref P 0] []] (H3 ++ [.cells [.nilfn] false]) = some (.undef, H4) := by
    have := st_box (pg := pg) (R := den pg) (H := H3 ++ [.cells [.nilfn] false]) (id := P + 2) (u := .nilfn) (ag := false) (v := .fn 96 [.ref P 0] []) (by rw [← l3]; exact getLast _ _) rfl
    rw [this, ← l3, Dn.setLast, hH4]
  have k43 : ∀ j, j < P + 2 → H4[j]? = H3[j]? := fun j hj => by rw [hH4, List.getElem?_append_left (by omega)]
  have old4 : ∀ j, j < P → H4[j]? = H[j]? := fun j hj => by rw [k43 j (by omega), hH3, List.getElem?_set_ne (by omega), hH2, List.getElem?_append_left (by omega), hH1, List.getElem?_append_left (by omega)]
  have hBid : ∀ id, BV = .ref id 0 → id < P := fun id hid => by
    rcases hB with ⟨bo, hb⟩ | ⟨id', hb, hb2⟩
    · rw [hb] at hid; cases hid
    · rw [hb] at hid; cases hid
      have := (List.getElem?_eq_some_iff.1 hb2).1; omega
  have hB4 : BOk r c H4 BV := hB.mono fun id hid => old4 id (hBid id hid)
  have c69 := hB4.bv.call69 (pg := pg) hF (col := 0) h
  have hclt := colM_lt r c 0
  have h1n := lv64 h
  obtain ⟨H5, hH5⟩ : ∃ H5 : Heap, H5 = H4 ++ [.cells [.i .u64 (colM r c 0 : Int)] false] := ⟨_, rfl⟩
  have l5 : H5.length = P + 4 := by rw [hH5]; simp [l4]
  have b63 := body63 (pg := pg) hF (colM r c 0) H4
  rw [← hH5, l4] at b63
  have k54 : ∀ j, j < P + 3 → H5[j]? = H4[j]? := fun j hj => by rw [hH5, List.getElem?_append_left (by omega)]
  obtain ⟨L, hL⟩ : ∃ L, L = lp1 a74_2 b74_3 24 [3, 5] [(3, .ref (P + 1) 0), (5, .ref (P + 2) 0), (23, .fn 93 [] [.ref (P + 3) 0])] := ⟨_, rfl⟩
  have hkeep : keepE [3, 5] ([(3, .ref (P + 1) 0), (5, .ref (P + 2) 0), (23, .fn 93 [] [.ref (P + 3) 0])] : Env) = [(3, .ref (P + 1) 0), (5, .ref (P + 2) 0)] := rfl
  have kl : ∀ j, j < P + 4 → (H5 ++ [.loop L])[j]? = H5[j]? := fun j hj => by rw [List.getElem?_append_left (by omega)]
  have hS0 : PS r c P (P + 4) BV H (H5 ++ [.loop L]) mates0 0 := by
    refine ⟨?_, ?_, ?_, by simp [l5], fun j hj => by rw [kl j (by omega), k54 j (by omega)]; exact old4 j hj, mates0_ok⟩
    · rw [kl P (by omega), k54 P (by omega), k43 P (by omega), hH3, List.getElem?_set_self (by omega)]
    · rw [kl (P + 1) (by omega), k54 (P + 1) (by omega), k43 (P + 1) (by omega)]; exact hp31
    · rw [kl (P + 2) (by omega), k54 (P + 2) (by omega), hH4, ← l3]; exact getLast _ _
  rcases rng hF (f := 23) (s := P + 3) (p := 24) (as_ := a74_2) (bd := b74_3) (ks := [3, 5]) (e := [(3, .ref (P + 1) 0), (5, .ref (P + 2) 0), (23, .fn 93 [] [.ref (P + 3) 0])]) (H := H5) (x := colM r c 0) rfl (by rw [hH5, ← l4]; exact getLast _ _) (by omega)
      (P := fun l K => ∃ M tr, PS r c P (P + 4) BV H K M tr ∧ (∀ t, t ∈ l → t < r * c) ∧ mateAll r c l M = matesOf r c) (Q := fun _ _ => False) (by rw [← hL]; exact ⟨mates0, 0, hS0, fun t ht => mem64_in hclt ht, rfl⟩)
      (fun l K cc ⟨M, tr, g1, g2, g3⟩ => ⟨M, tr, g1.set (by omega) _, g2, g3⟩) (by rw [l5, ← hL]; exact paired_round hF h rfl hB hBid hL rfl) with ⟨H6, r1, M, tr, g1, _, g2⟩ | ⟨_, _, _, _, hf⟩
  · have g2' : M = matesOf r c := g2
    subst g2'
    rw [l5, ← hL, hkeep] at r1
    obtain ⟨H7, hH7⟩ : ∃ H7, H7 = H6.set (P + 4) (.loop { L with st := .exhausted }) := ⟨_, rfl⟩
    rw [← hH7] at r1
    have g7 : PS r c P (P + 4) BV H H7 (matesOf r c) tr := by rw [hH7]; exact g1.set (by omega) _
    have ld7 := ld_box (pg := pg) (R := den pg) g7.p1 rfl
    have hl7 := g7.len
    rw [← hP]
    refine ⟨H7, tr, body_of (x := .ret) (e := [(2, .ref P 0)]) (d := d74) (by rw [hF.F]; rfl) rfl ?_ (.inl rfl) rfl, g7.p, by omega, fun j hj => g7.old j hj⟩
    have mkf : dkc pg (den pg) (.mkfn 96 1) [.ref P 0] H3 = some (.fn 96 [.ref P 0] [], H3) := rfl
    generalize pC BV (List.replicate 0 (-1) ++ List.replicate 36 0) 0 = CC at *
    generalize (colM r c 0 : Int) = C0 at *
    simp only [Int.natCast_zero] at c69
    simp (disch := omega) [d74, c74, zipE, go_nil, go_last, go_past, go_pastR, go_blkN, go_blkR, go_blkE, go_skip, go_exit, go_ret, go_scope, go_seq, go_reg, go_regd, go_opdN, go_opd, go_opdG, grdd_b, grdd_u, stpd_some, find_some, go_block, go_cond, cnd_b, go_opsN, go_ops, go_opsG, grd_b, grd_u, stp_some, fin_some, up_some, cont_some, k_call, k_mv, k_pick, k_bin, k_eqB, k_eqA, k_not, k_neg, k_conv, k_alloc, k_boxA, k_boxI, k_boxB, k_boxN, k_boxBs, k_ldR, k_ldA, k_ldI, k_ldB, k_stA, k_stI, k_stB, ldC_some, stC_some, k_mkfn, k_slc, k_slcA, k_ixA, k_ixBs, k_ixSl, k_fadr, k_fld, k_ext, k_len, k_app, k_mn, k_mx, k_nilck, k_build, k_bsl1, k_bsl2, b_add, b_sub, b_mul, b_eql, b_neq, b_lss, b_leq, b_gtr, b_geq, Dn.setLast, Dn.getLast, evalO, mapO, Dn.get, putE, keepE_nil, keepE_cons, kp_some, kp_none, TV.one, TV.isAgg, Dn.part, k_boxR, negb, at0, at1, at2, at3, at4, dT, dF, wrapR_i64, Option.bind_some, Option.map_some, hbu, hbx, l1, st3', mkf, go_denK (c := l74_1) rfl, k1, g0, g3, ld3, l3, st5, c69, sh_fn, b63, r1, ld7]
  · exact hf.elim

end Go.Proofs.Tryd.Dn

/-
  Knight: what is reached by a pairing, in the program.
-/

namespace Go.Proofs.Tryd.Dn
open Go.Dn

/-! in plain terms -/
def addMates (M : List Int) (l : List Nat) (own : Nat) : Nat := l.foldl (fun o t => if M.getD t 0 < 0 then o else o ||| 2 ^ (M.getD t 0).toNat) own
def reachF (r c : Nat) (M : List Int) : Nat → Nat → Nat → Nat → Nat × Nat
  | 0, own, _, other => (own, other)
  | f + 1, own, last, other => if last = own then (own, other) else reachF r c M f (addMates M (mem64 (around r c own)) own) own (around r c own)
def bitsF (l : List Nat) (own : Nat) : Nat := l.foldl (fun o s => o ||| 2 ^ s) own
def reachS (r c : Nat) (M : List Int) (l : List Nat) : Nat × Nat := reachF r c M 40 (bitsF l 0) 0 0

theorem untr_grow {n a b : Nat} (ha : a < 2 ^ n) (hb : b < 2 ^ n) (hs : ∀ i, a.testBit i = true → b.testBit i = true) (hne : b ≠ a) : untr n b + 1 ≤ untr n a := by
  have : ∃ i, b.testBit i = true ∧ a.testBit i = false := by
    apply Classical.byContradiction
    intro hc
    apply hne
    apply Nat.eq_of_testBit_eq
    intro i
    cases h1 : b.testBit i <;> cases h2 : a.testBit i
    · rfl
    · rw [hs i h2] at h1; cases h1
    · exact (hc ⟨i, h1, h2⟩).elim
    · rfl
  obtain ⟨i, h1, h2⟩ := this
  have hi : i < n := by
    apply Classical.byContradiction
    intro hc
    rw [Nat.testBit_lt_two_pow (Nat.lt_of_lt_of_le hb (Nat.pow_le_pow_right (by decide) (by omega)))] at h1
    cases h1
  unfold untr
  refine cnt_lt (fun x _ hp => ?_) ⟨i, List.mem_range.2 hi, by rw [h2]; rfl, by rw [h1]; rfl⟩
  cases h3 : a.testBit x
  · rfl
  · rw [hs x h3] at hp; cases hp

/-! the pairing by value -/
end Go.Proofs.Tryd.Dn

