/-
  Knight: a pairing with as many pairs as possible, in the program.
-/
import Derived.Test.YtdjbpmgbaggfbaaDoorKfb
set_option linter.unusedSimpArgs false
set_option linter.unusedVariables false

namespace Go.Proofs.Tryd.Dn
open Go.Dn

def mates0 : List Int := List.replicate 36 (-1)
def mateAll (r c : Nat) (l : List Nat) (M : List Int) : List Int := l.foldl (fun M s => (grow r c 37 M 0 s).2.1) M
def matesOf (r c : Nat) : List Int := mateAll r c (mem64 (colM r c 0)) mates0

theorem mates0_ok {n : Nat} : MOk n mates0 := by
  refine ⟨by simp [mates0], fun t ht => ?_⟩
  unfold mates0
  rw [List.getD_eq_getElem?_getD, List.getElem?_replicate, if_pos ht]
  show (-1 : Int) < (n : Int)
  omega

theorem mateAll_ok {r c : Nat} (h : Brd r c) : ∀ (l : List Nat) (M : List Int), (∀ s, s ∈ l → s < r * c) → MOk (r * c) M → MOk (r * c) (mateAll r c l M)
  | [], M, _, hM => hM
  | s :: l, M, hl, hM => mateAll_ok h l _ (fun x hx => hl x (by simp [hx])) (grow_ok h 37 M 0 s hM (Nat.two_pow_pos _) (hl s (by simp))).m

theorem matesOf_ok {r c : Nat} (h : Brd r c) : MOk (r * c) (matesOf r c) := mateAll_ok h _ _ (fun s hs => mem64_in (colM_lt r c 0) hs) mates0_ok

theorem untr_le (n tr : Nat) : untr n tr ≤ n := by
  unfold untr
  exact Nat.le_trans List.countP_le_length (by simp)

structure PS (r c P lp : Nat) (BV : TV) (H0 H : Heap) (M : List Int) (tr : Nat) : Prop where
  p : H[P]? = some (.cells (pC BV M tr) true)
  p1 : H[P + 1]? = some (.cells [.ref P 0] false)
  p2 : H[P + 2]? = some (.cells [.fn 96 [.ref P 0] []] false)
  len : lp < H.length
  old : ∀ j, j < P → H[j]? = H0[j]?
  mok : MOk (r * c) M

theorem PS.set {r c P lp : Nat} {BV : TV} {H0 H : Heap} {M : List Int} {tr : Nat} (h : PS r c P lp BV H0 H M tr) {j : Nat} (hj : P + 3 ≤ j) (o : AObj) : PS r c P lp BV H0 (H.set j o) M tr :=
  ⟨by rw [List.getElem?_set_ne (by omega)]; exact h.p, by rw [List.getElem?_set_ne (by omega)]; exact h.p1, by rw [List.getElem?_set_ne (by omega)]; exact h.p2, by simpa using h.len,
    fun k hk => by rw [List.getElem?_set_ne (by omega)]; exact h.old k hk, h.mok⟩

theorem paired_round {pg : Pg} (hF : Free pg) {r c P lp : Nat} {BV : TV} (h : Brd r c) (hlp : lp = P + 4) {H0 : Heap} (hB0 : BOk r c H0 BV) (hBP : ∀ id, BV = .ref id 0 → id < P)
    {L : ALoop} {e : Env} (hL : L = lp1 a74_2 b74_3 24 [3, 5] e) (he : keepE [3, 5] e = [(3, .ref (P + 1) 0), (5, .ref (P + 2) 0)]) {o : List Int} :
    Rnd pg lp (P + 3) L (fun l H => ∃ M tr, PS r c P lp BV H0 H M tr ∧ (∀ t, t ∈ l → t < r * c) ∧ mateAll r c l M = o) (fun _ _ => False) := by
  rintro s rest H ⟨M, tr, hS, hts, ho⟩ hlpc hk
  have hn := h.n36
  have hs := hts s (by simp)
  have hml := hS.mok.1
  obtain ⟨HB, hHB⟩ : ∃ HB, HB = H.set lp (.loop { L with st := .busy }) := ⟨_, rfl⟩
  have pB : PS r c P lp BV H0 HB M tr := by rw [hHB]; exact hS.set (by omega) _
  have hlB : HB[lp]? = some (.loop { L with st := .busy }) := by rw [hHB, List.getElem?_set_self hS.len]
  have hsB : HB[P + 3]? = H[P + 3]? := by rw [hHB, List.getElem?_set_ne (by omega)]
  have hLe : L.env = [(3, .ref (P + 1) 0), (5, .ref (P + 2) 0)] := by rw [hL]; exact he
  have hLa : L.assign = a74_2 := by rw [hL]; rfl
  have hLb : L.body = b74_3 := by rw [hL]; rfl
  have hLp : L.params = [24] := by rw [hL]; rfl
  have ha1 : den pg L.assign ((L.params.zip [.i .i64 (s : Int)]).reverse ++ L.env) H = some ⟨.normal, [(3, .ref (P + 1) 0), (5, .ref (P + 2) 0), (6, .i .i64 (s : Int))], H⟩ := by
    rw [hLe, hLa, hLp, den_eq, runC_go]
    simp [a74_2, go_nil, go_last, go_past, go_pastR, go_blkN, go_blkR, go_blkE, go_skip, go_exit, go_ret, go_scope, go_seq, go_reg, go_regd, go_opdN, go_opd, go_opdG, grdd_b, grdd_u, stpd_some, find_some, go_block, go_cond, cnd_b, go_opsN, go_ops, go_opsG, grd_b, grd_u, stp_some, fin_some, up_some, cont_some, k_call, k_mv, k_pick, k_bin, k_eqB, k_eqA, k_not, k_neg, k_conv, k_alloc, k_boxA, k_boxI, k_boxB, k_boxN, k_boxBs, k_ldR, k_ldA, k_ldI, k_ldB, k_stA, k_stI, k_stB, ldC_some, stC_some, k_mkfn, k_slc, k_slcA, k_ixA, k_ixBs, k_ixSl, k_fadr, k_fld, k_ext, k_len, k_app, k_mn, k_mx, k_nilck, k_build, k_bsl1, k_bsl2, b_add, b_sub, b_mul, b_eql, b_neq, b_lss, b_leq, b_gtr, b_geq, Dn.setLast, Dn.getLast, evalO, mapO, Dn.get, putE, keepE, TV.one, TV.isAgg, Dn.part]
  have l1 := ld_box (pg := pg) (R := den pg) pB.p1 rfl
  have stT := st_pT (pg := pg) (R := den pg) pB.p hml 0
  have hPl := (List.getElem?_eq_some_iff.1 pB.p).1
  obtain ⟨H1, hH1⟩ : ∃ H1, H1 = HB.set P (.cells (pC BV M 0) true) := ⟨_, rfl⟩
  rw [← hH1] at stT
  have q0 : H1[P]? = some (.cells (pC BV M 0) true) := by rw [hH1, List.getElem?_set_self hPl]
  have q1 : H1[P + 1]? = some (.cells [.ref P 0] false) := by rw [hH1, List.getElem?_set_ne (by omega)]; exact pB.p1
  have q2 : H1[P + 2]? = some (.cells [.fn 96 [.ref P 0] []] false) := by rw [hH1, List.getElem?_set_ne (by omega)]; exact pB.p2
  have ql : lp < H1.length := by rw [hH1]; simpa using pB.len
  have qo : ∀ j, j < P → H1[j]? = H0[j]? := fun j hj => by rw [hH1, List.getElem?_set_ne (by omega)]; exact pB.old j hj
  have l2 := ld_box (pg := pg) (R := den pg) q2 rfl
  have hBO : BOk r c H1 BV := hB0.mono fun id hid => qo id (hBP id hid)
  obtain ⟨H', g1, g2, g3, g4⟩ := body96 (pg := pg) hF h (P := P) (BV := BV) (fun id hid => by have := hBP id hid; omega) 37 H1 M 0 s q0 hBO hS.mok (Nat.two_pow_pos _) hs (by have := untr_le (r * c) 0; omega)
  have gk := grow_ok h 37 M 0 s hS.mok (Nat.two_pow_pos _) hs
  have ho' : mateAll r c rest (grow r c 37 M 0 s).2.1 = o := ho
  generalize grow r c 37 M 0 s = oo at *
  obtain ⟨ok, M2, tr2⟩ := oo
  have g1' : callRun pg (den pg) .sh [.fn 96 [.ref P 0] [], .i .i64 (s : Int)] H1 = some (.b ok, H') := by rw [sh_fn]; exact g1
  have fd : ∀ (K : Heap) (o sz : Nat) (ag : Bool), dkc pg (den pg) (.fadr o sz ag) [.ref P 0] K = some (.ref P o, K) := fun K o sz ag => by rw [k_fadr]; simp
  have hl' : H'[lp]? = some (.loop { L with st := .busy }) := by rw [g4 lp (by omega) (by omega), hH1, List.getElem?_set_ne (by omega)]; exact hlB
  have hbd : den pg L.body [(3, .ref (P + 1) 0), (5, .ref (P + 2) 0), (6, .i .i64 (s : Int))] HB = some ⟨.normal, [], H'⟩ := by
    rw [hLb, den_eq, runC_go]
    simp only [Int.natCast_zero] at stT
    simp (disch := omega) [b74_3, go_nil, go_last, go_past, go_pastR, go_blkN, go_blkR, go_blkE, go_skip, go_exit, go_ret, go_scope, go_seq, go_reg, go_regd, go_opdN, go_opd, go_opdG, grdd_b, grdd_u, stpd_some, find_some, go_block, go_cond, cnd_b, go_opsN, go_ops, go_opsG, grd_b, grd_u, stp_some, fin_some, up_some, cont_some, k_call, k_mv, k_pick, k_bin, k_eqB, k_eqA, k_not, k_neg, k_conv, k_alloc, k_boxA, k_boxI, k_boxB, k_boxN, k_boxBs, k_ldR, k_ldA, k_ldI, k_ldB, k_stA, k_stI, k_stB, ldC_some, stC_some, k_mkfn, k_slc, k_slcA, k_ixA, k_ixBs, k_ixSl, k_fadr, k_fld, k_ext, k_len, k_app, k_mn, k_mx, k_nilck, k_build, k_bsl1, k_bsl2, b_add, b_sub, b_mul, b_eql, b_neq, b_lss, b_leq, b_gtr, b_geq, Dn.setLast, Dn.getLast, evalO, mapO, Dn.get, putE, keepE_nil, keepE_cons, kp_some, kp_none, TV.one, TV.isAgg, Dn.part, k_boxR, negb, at0, at1, at2, at3, at4, dT, dF, wrapR_i64, Option.bind_some, Option.map_some, l1, fd, stT, l2, g1']
  refine .inl ⟨H'.set lp (.loop L), Body.of ha1 hlpc (by rw [← hHB]; exact hbd) hl', ⟨M2, tr2, PS.set ⟨g2, by rw [g4 _ (by omega) (by omega)]; exact q1, by rw [g4 _ (by omega) (by omega)]; exact q2, by omega, fun j hj => by rw [g4 j (by omega) (by omega)]; exact qo j hj, gk.m⟩ (by omega) _, fun t ht => hts t (by simp [ht]), ho'⟩, ?_⟩
  rw [List.getElem?_set_ne (by omega), g4 _ (by omega) (by omega), hH1, List.getElem?_set_ne (by omega)]
  exact hsB

theorem l74_1_all {pg : Pg} {P : Nat} {BV : TV} : ∀ (d k : Nat) (H : Heap), k + d = 36 → H[P]? = some (.cells (pC BV (List.replicate k (-1) ++ List.replicate d 0) 0) true) → H[P + 1]? = some (.cells [.ref P 0] false) →
    ∃ e, den pg l74_1 [(0, BV), (3, .ref (P + 1) 0), (10, .i .i64 (k : Int))] H = some ⟨.exit 0, e, H.set P (.cells (pC BV mates0 0) true)⟩ ∧ keepE [0, 3] e = [(0, BV), (3, .ref (P + 1) 0)]
  | 0, k, H, hd, hp, hp1 => by
    obtain rfl : k = 36 := by omega
    have hm : List.replicate 36 (-1 : Int) ++ List.replicate 0 0 = mates0 := by simp [mates0]
    rw [hm] at hp
    rw [set_cell hp]
    exact ⟨_, by
      rw [l74_1, den_loop]
      simp (disch := omega) [b74_0, go_nil, go_last, go_past, go_pastR, go_blkN, go_blkR, go_blkE, go_skip, go_exit, go_ret, go_scope, go_seq, go_reg, go_regd, go_opdN, go_opd, go_opdG, grdd_b, grdd_u, stpd_some, find_some, go_block, go_cond, cnd_b, go_opsN, go_ops, go_opsG, grd_b, grd_u, stp_some, fin_some, up_some, cont_some, k_call, k_mv, k_pick, k_bin, k_eqB, k_eqA, k_not, k_neg, k_conv, k_alloc, k_boxA, k_boxI, k_boxB, k_boxN, k_boxBs, k_ldR, k_ldA, k_ldI, k_ldB, k_stA, k_stI, k_stB, ldC_some, stC_some, k_mkfn, k_slc, k_slcA, k_ixA, k_ixBs, k_ixSl, k_fadr, k_fld, k_ext, k_len, k_app, k_mn, k_mx, k_nilck, k_build, k_bsl1, k_bsl2, b_add, b_sub, b_mul, b_eql, b_neq, b_lss, b_leq, b_gtr, b_geq, Dn.setLast, Dn.getLast, evalO, mapO, Dn.get, putE, keepE_nil, keepE_cons, kp_some, kp_none, TV.one, TV.isAgg, Dn.part, k_boxR, negb, at0, at1, at2, at3, at4, dT, dF, wrapR_i64, Option.bind_some, Option.map_some]
      rfl, rfl⟩
  | d + 1, k, H, hd, hp, hp1 => by
    have hPl := (List.getElem?_eq_some_iff.1 hp).1
    have l1 := ld_box (pg := pg) (R := den pg) hp1 rfl
    have ix := fun K => ix_p (pg := pg) (R := den pg) (P := P) (H := K) (t := k) (by omega) .i64
    have st := st_pM (pg := pg) (R := den pg) hp (t := k) (by simp) (-1)
    have hs : (List.replicate k (-1 : Int) ++ List.replicate (d + 1) 0).set k (-1) = List.replicate (k + 1) (-1) ++ List.replicate d 0 := by
      rw [List.set_append_right _ _ (by simp), List.length_replicate, Nat.sub_self, List.replicate_succ, List.set_cons_zero, List.replicate_succ']
      simp
    rw [hs] at st
    obtain ⟨e, e1, e2⟩ := l74_1_all (pg := pg) (P := P) (BV := BV) d (k + 1) (H.set P (.cells (pC BV (List.replicate (k + 1) (-1) ++ List.replicate d 0) 0) true)) (by omega) (by rw [List.getElem?_set_self hPl]) (by rw [List.getElem?_set_ne (by omega)]; exact hp1)
    rw [List.set_set] at e1
    refine ⟨e, Eq.trans ?_ e1, e2⟩
    have fd : ∀ (K : Heap) (o sz : Nat) (ag : Bool), dkc pg (den pg) (.fadr o sz ag) [.ref P 0] K = some (.ref P o, K) := fun K o sz ag => by rw [k_fadr]; simp
    generalize pC BV (List.replicate (k + 1) (-1) ++ List.replicate d 0) 0 = CC at *
    rw [l74_1, den_loop]
    simp (disch := omega) [l74_1, b74_0, go_nil, go_last, go_past, go_pastR, go_blkN, go_blkR, go_blkE, go_skip, go_exit, go_ret, go_scope, go_seq, go_reg, go_regd, go_opdN, go_opd, go_opdG, grdd_b, grdd_u, stpd_some, find_some, go_block, go_cond, cnd_b, go_opsN, go_ops, go_opsG, grd_b, grd_u, stp_some, fin_some, up_some, cont_some, k_call, k_mv, k_pick, k_bin, k_eqB, k_eqA, k_not, k_neg, k_conv, k_alloc, k_boxA, k_boxI, k_boxB, k_boxN, k_boxBs, k_ldR, k_ldA, k_ldI, k_ldB, k_stA, k_stI, k_stB, ldC_some, stC_some, k_mkfn, k_slc, k_slcA, k_ixA, k_ixBs, k_ixSl, k_fadr, k_fld, k_ext, k_len, k_app, k_mn, k_mx, k_nilck, k_build, k_bsl1, k_bsl2, b_add, b_sub, b_mul, b_eql, b_neq, b_lss, b_leq, b_gtr, b_geq, Dn.setLast, Dn.getLast, evalO, mapO, Dn.get, putE, keepE_nil, keepE_cons, kp_some, kp_none, TV.one, TV.isAgg, Dn.part, k_boxR, negb, at0, at1, at2, at3, at4, dT, dF, wrapR_i64, Option.bind_some, Option.map_some, l1, fd, ix, st]

theorem body74 {pg : Pg} (hF : Free pg) {r c : Nat} {BV : TV} (h : Brd r c) {H : Heap} (hB : BOk r c H BV) :
    ∃ H' tr, bodyRun pg (den pg) 74 [BV] H = some (.ref H.length 0, H') ∧ H'[H.length]? = some (.cells (pC BV (matesOf r c) tr) true) ∧ H.length < H'.length ∧ ∀ j, j < H.length → H'[j]? = H[j]? := by
  have hn := h.n36
  obtain ⟨P, hP⟩ : ∃ P, P = H.length := ⟨_, rfl⟩
  have hz : pC BV (List.replicate 0 (-1) ++ List.replicate 36 0) 0 = BV :: List.replicate 36 (.i .i64 0) ++ [.i .u64 0] := by simp [pC]
  obtain ⟨hB1, hB2⟩ := hB.one
  have hcells : BV.cells = [BV] := by cases BV <;> simp_all [TV.cells, TV.one]
  have hbu : dkc pg (den pg) (.build [.nilp, (.i .i64 0), (.i .i64 0), (.i .i64 0), (.i .i64 0), (.i .i64 0), (.i .i64 0), (.i .i64 0), (.i .i64 0), (.i .i64 0), (.i .i64 0), (.i .i64 0), (.i .i64 0), (.i .i64 0), (.i .i64 0), (.i .i64 0), (.i .i64 0), (.i .i64 0), (.i .i64 0), (.i .i64 0), (.i .i64 0), (.i .i64 0), (.i .i64 0), (.i .i64 0), (.i .i64 0), (.i .i64 0), (.i .i64 0), (.i .i64 0), (.i .i64 0), (.i .i64 0), (.i .i64 0), (.i .i64 0), (.i .i64 0), (.i .i64 0), (.i .i64 0), (.i .i64 0), (.i .i64 0), (.i .u64 0)] [(0, 1)]) [BV] H = some (.agg (pC BV (List.replicate 0 (-1) ++ List.replicate 36 0) 0), H) := by
    rw [hz, k_build]
    simp only [fillP, hcells, List.length_singleton, List.all_cons, hB1, List.all_nil, Bool.and_true, List.length_cons, List.length_nil, true_and, put2, List.take_zero, List.nil_append, List.drop_succ_cons, List.drop_zero, Nat.zero_add]
    rfl
  obtain ⟨H1, hH1⟩ : ∃ H1 : Heap, H1 = H ++ [.cells (pC BV (List.replicate 0 (-1) ++ List.replicate 36 0) 0) true] := ⟨_, rfl⟩
  have hall : (pC BV (List.replicate 0 (-1) ++ List.replicate 36 0) 0).all TV.one = true := by
    rw [hz]
    simp only [List.cons_append, List.all_cons, hB1, Bool.true_and, List.all_append]
    rfl
  have hbx : dkc pg (den pg) (.box true) [.agg (pC BV (List.replicate 0 (-1) ++ List.replicate 36 0) 0)] H = some (.ref P 0, H1) := by
    rw [k_boxA _ _ hall, hH1, hP]
  have l1 : H1.length = P + 1 := by rw [hH1, hP]; simp
  obtain ⟨H2, hH2⟩ : ∃ H2 : Heap, H2 = H1 ++ [.cells [.ref P 0] false] := ⟨_, rfl⟩
  have l2 : H2.length = P + 2 := by rw [hH2]; simp [l1]
  have st3 : stC (H1 ++ [.cells [.nilp] false])[P + 1]? 1 (P + 1) 0 [.ref P 0] (H1 ++ [.cells [.nilp] false]) = some (.undef, H2) := by
    rw [← l1, getLast, stC_some, if_pos ⟨rfl, rfl, by simp⟩, Dn.setLast, hH2]
    rfl
  have st3' : dkc pg (den pg) (.st 1) [.ref (P + 1) 0, .ref P 0] (H1 ++ [.cells [.nilp] false]) = some (.undef, H2) := by
    have := st_box (pg := pg) (R := den pg) (H := H1 ++ [.cells [.nilp] false]) (id := P + 1) (u := .nilp) (ag := false) (v := .ref P 0) (by rw [← l1]; exact getLast _ _) rfl
    rw [this, ← l1, Dn.setLast, hH2]
  have hp2 : H2[P]? = some (.cells (pC BV (List.replicate 0 (-1) ++ List.replicate 36 0) 0) true) := by rw [hH2, List.getElem?_append_left (by omega), hH1, hP]; exact getLast _ _
  have hp21 : H2[P + 1]? = some (.cells [.ref P 0] false) := by rw [hH2, ← l1]; exact getLast _ _
  obtain ⟨e1, k1, k2⟩ := l74_1_all (pg := pg) (P := P) (BV := BV) 36 0 H2 (by omega) hp2 hp21
  simp only [Int.natCast_zero] at k1
  have g0 := keep_get k2 (s := 0) (by simp) rfl
  have g3 := keep_get k2 (s := 3) (by simp) rfl
  obtain ⟨H3, hH3⟩ : ∃ H3, H3 = H2.set P (.cells (pC BV mates0 0) true) := ⟨_, rfl⟩
  rw [← hH3] at k1
  have l3 : H3.length = P + 2 := by rw [hH3]; simp [l2]
  have hp31 : H3[P + 1]? = some (.cells [.ref P 0] false) := by rw [hH3, List.getElem?_set_ne (by omega)]; exact hp21
  have ld3 := ld_box (pg := pg) (R := den pg) hp31 rfl
  obtain ⟨H4, hH4⟩ : ∃ H4 : Heap, H4 = H3 ++ [.cells [.fn 96 [.ref P 0] []] false] := ⟨_, rfl⟩
  have l4 : H4.length = P + 3 := by rw [hH4]; simp [l3]
  have st5 : dkc pg (den pg) (.st 1) [.ref (P + 2) 0, .fn 96 [.ref P 0] []] (H3 ++ [.cells [.nilfn] false]) = some (.undef, H4) := by
    have := st_box (pg := pg) (R := den pg) (H := H3 ++ [.cells [.nilfn] false]) (id := P + 2) (u := .nilfn) (ag := false) (v := .fn 96 [.ref P 0] []) (by rw [← l3]; exact getLast _ _) rfl
    rw [this, ← l3, Dn.setLast, hH4]
  have k43 : ∀ j, j < P + 2 → H4[j]? = H3[j]? := fun j hj => by rw [hH4, List.getElem?_append_left (by omega)]
  have old4 : ∀ j, j < P → H4[j]? = H[j]? := fun j hj => by rw [k43 j (by omega), hH3, List.getElem?_set_ne (by omega), hH2, List.getElem?_append_left (by omega), hH1, List.getElem?_append_left (by omega)]
  have hBid : ∀ id, BV = .ref id 0 → id < P := fun id hid => by
    rcases hB with ⟨bo, hb⟩ | ⟨id', hb, hb2⟩
    · rw [hb] at hid; cases hid
    · rw [hb] at hid; cases hid
      have := (List.getElem?_eq_some_iff.1 hb2).1; omega
  have hB4 : BOk r c H4 BV := hB.mono fun id hid => old4 id (hBid id hid)
  have c69 := hB4.bv.call69 (pg := pg) hF (col := 0) h
  have hclt := colM_lt r c 0
  have h1n := lv64 h
  obtain ⟨H5, hH5⟩ : ∃ H5 : Heap, H5 = H4 ++ [.cells [.i .u64 (colM r c 0 : Int)] false] := ⟨_, rfl⟩
  have l5 : H5.length = P + 4 := by rw [hH5]; simp [l4]
  have b63 := body63 (pg := pg) hF (colM r c 0) H4
  rw [← hH5, l4] at b63
  have k54 : ∀ j, j < P + 3 → H5[j]? = H4[j]? := fun j hj => by rw [hH5, List.getElem?_append_left (by omega)]
  obtain ⟨L, hL⟩ : ∃ L, L = lp1 a74_2 b74_3 24 [3, 5] [(3, .ref (P + 1) 0), (5, .ref (P + 2) 0), (23, .fn 93 [] [.ref (P + 3) 0])] := ⟨_, rfl⟩
  have hkeep : keepE [3, 5] ([(3, .ref (P + 1) 0), (5, .ref (P + 2) 0), (23, .fn 93 [] [.ref (P + 3) 0])] : Env) = [(3, .ref (P + 1) 0), (5, .ref (P + 2) 0)] := rfl
  have kl : ∀ j, j < P + 4 → (H5 ++ [.loop L])[j]? = H5[j]? := fun j hj => by rw [List.getElem?_append_left (by omega)]
  have hS0 : PS r c P (P + 4) BV H (H5 ++ [.loop L]) mates0 0 := by
    refine ⟨?_, ?_, ?_, by simp [l5], fun j hj => by rw [kl j (by omega), k54 j (by omega)]; exact old4 j hj, mates0_ok⟩
    · rw [kl P (by omega), k54 P (by omega), k43 P (by omega), hH3, List.getElem?_set_self (by omega)]
    · rw [kl (P + 1) (by omega), k54 (P + 1) (by omega), k43 (P + 1) (by omega)]; exact hp31
    · rw [kl (P + 2) (by omega), k54 (P + 2) (by omega), hH4, ← l3]; exact getLast _ _
  rcases rng hF (f := 23) (s := P + 3) (p := 24) (as_ := a74_2) (bd := b74_3) (ks := [3, 5]) (e := [(3, .ref (P + 1) 0), (5, .ref (P + 2) 0), (23, .fn 93 [] [.ref (P + 3) 0])]) (H := H5) (x := colM r c 0) rfl (by rw [hH5, ← l4]; exact getLast _ _) (by omega)
      (P := fun l K => ∃ M tr, PS r c P (P + 4) BV H K M tr ∧ (∀ t, t ∈ l → t < r * c) ∧ mateAll r c l M = matesOf r c) (Q := fun _ _ => False) (by rw [← hL]; exact ⟨mates0, 0, hS0, fun t ht => mem64_in hclt ht, rfl⟩)
      (fun l K cc ⟨M, tr, g1, g2, g3⟩ => ⟨M, tr, g1.set (by omega) _, g2, g3⟩) (by rw [l5, ← hL]; exact paired_round hF h rfl hB hBid hL rfl) with ⟨H6, r1, M, tr, g1, _, g2⟩ | ⟨_, _, _, _, hf⟩
  · have g2' : M = matesOf r c := g2
    subst g2'
    rw [l5, ← hL, hkeep] at r1
    obtain ⟨H7, hH7⟩ : ∃ H7, H7 = H6.set (P + 4) (.loop { L with st := .exhausted }) := ⟨_, rfl⟩
    rw [← hH7] at r1
    have g7 : PS r c P (P + 4) BV H H7 (matesOf r c) tr := by rw [hH7]; exact g1.set (by omega) _
    have ld7 := ld_box (pg := pg) (R := den pg) g7.p1 rfl
    have hl7 := g7.len
    rw [← hP]
    refine ⟨H7, tr, body_of (x := .ret) (e := [(2, .ref P 0)]) (d := d74) (by rw [hF.F]; rfl) rfl ?_ (.inl rfl) rfl, g7.p, by omega, fun j hj => g7.old j hj⟩
    have mkf : dkc pg (den pg) (.mkfn 96 1) [.ref P 0] H3 = some (.fn 96 [.ref P 0] [], H3) := rfl
    generalize pC BV (List.replicate 0 (-1) ++ List.replicate 36 0) 0 = CC at *
    generalize (colM r c 0 : Int) = C0 at *
    simp only [Int.natCast_zero] at c69
    simp (disch := omega) [d74, c74, zipE, go_nil, go_last, go_past, go_pastR, go_blkN, go_blkR, go_blkE, go_skip, go_exit, go_ret, go_scope, go_seq, go_reg, go_regd, go_opdN, go_opd, go_opdG, grdd_b, grdd_u, stpd_some, find_some, go_block, go_cond, cnd_b, go_opsN, go_ops, go_opsG, grd_b, grd_u, stp_some, fin_some, up_some, cont_some, k_call, k_mv, k_pick, k_bin, k_eqB, k_eqA, k_not, k_neg, k_conv, k_alloc, k_boxA, k_boxI, k_boxB, k_boxN, k_boxBs, k_ldR, k_ldA, k_ldI, k_ldB, k_stA, k_stI, k_stB, ldC_some, stC_some, k_mkfn, k_slc, k_slcA, k_ixA, k_ixBs, k_ixSl, k_fadr, k_fld, k_ext, k_len, k_app, k_mn, k_mx, k_nilck, k_build, k_bsl1, k_bsl2, b_add, b_sub, b_mul, b_eql, b_neq, b_lss, b_leq, b_gtr, b_geq, Dn.setLast, Dn.getLast, evalO, mapO, Dn.get, putE, keepE_nil, keepE_cons, kp_some, kp_none, TV.one, TV.isAgg, Dn.part, k_boxR, negb, at0, at1, at2, at3, at4, dT, dF, wrapR_i64, Option.bind_some, Option.map_some, hbu, hbx, l1, st3', mkf, go_denK (c := l74_1) rfl, k1, g0, g3, ld3, l3, st5, c69, sh_fn, b63, r1, ld7]
  · exact hf.elim

end Go.Proofs.Tryd.Dn

/-
  Knight: what is reached by a pairing, in the program.
-/

namespace Go.Proofs.Tryd.Dn
open Go.Dn

/-! in plain terms -/
def addMates (M : List Int) (l : List Nat) (own : Nat) : Nat := l.foldl (fun o t => if M.getD t 0 < 0 then o else o ||| 2 ^ (M.getD t 0).toNat) own
def reachF (r c : Nat) (M : List Int) : Nat → Nat → Nat → Nat → Nat × Nat
  | 0, own, _, other => (own, other)
  | f + 1, own, last, other => if last = own then (own, other) else reachF r c M f (addMates M (mem64 (around r c own)) own) own (around r c own)
def bitsF (l : List Nat) (own : Nat) : Nat := l.foldl (fun o s => o ||| 2 ^ s) own
def reachS (r c : Nat) (M : List Int) (l : List Nat) : Nat × Nat := reachF r c M 40 (bitsF l 0) 0 0

theorem addMates_lt {n : Nat} {M : List Int} (hM : MOk n M) : ∀ (l : List Nat) (own : Nat), (∀ t, t ∈ l → t < 36) → own < 2 ^ n → addMates M l own < 2 ^ n
  | [], own, _, h => h
  | t :: l, own, hl, h => by
    show addMates M l (if M.getD t 0 < 0 then own else own ||| 2 ^ (M.getD t 0).toNat) < 2 ^ n
    refine addMates_lt hM l _ (fun x hx => hl x (by simp [hx])) ?_
    split
    · exact h
    · have := hM.2 t (hl t (by simp))
      exact or_lt h (Nat.pow_lt_pow_right (by decide) (by omega))

theorem addMates_ge (M : List Int) (i : Nat) : ∀ (l : List Nat) (own : Nat), own.testBit i = true → (addMates M l own).testBit i = true
  | [], own, h => h
  | t :: l, own, h => by
    show (addMates M l (if M.getD t 0 < 0 then own else own ||| 2 ^ (M.getD t 0).toNat)).testBit i = true
    refine addMates_ge M i l _ ?_
    split
    · exact h
    · rw [Nat.testBit_or, h]; rfl

theorem untr_grow {n a b : Nat} (ha : a < 2 ^ n) (hb : b < 2 ^ n) (hs : ∀ i, a.testBit i = true → b.testBit i = true) (hne : b ≠ a) : untr n b + 1 ≤ untr n a := by
  have : ∃ i, b.testBit i = true ∧ a.testBit i = false := by
    apply Classical.byContradiction
    intro hc
    apply hne
    apply Nat.eq_of_testBit_eq
    intro i
    cases h1 : b.testBit i <;> cases h2 : a.testBit i
    · rfl
    · rw [hs i h2] at h1; cases h1
    · exact (hc ⟨i, h1, h2⟩).elim
    · rfl
  obtain ⟨i, h1, h2⟩ := this
  have hi : i < n := by
    apply Classical.byContradiction
    intro hc
    rw [Nat.testBit_lt_two_pow (Nat.lt_of_lt_of_le hb (Nat.pow_le_pow_right (by decide) (by omega)))] at h1
    cases h1
  unfold untr
  refine cnt_lt (fun x _ hp => ?_) ⟨i, List.mem_range.2 hi, by rw [h2]; rfl, by rw [h1]; rfl⟩
  cases h3 : a.testBit x
  · rfl
  · rw [hs x h3] at hp; cases hp

/-! the pairing by value -/
def pV (bo bo' : Bool) (r c : Nat) (M : List Int) (tr : Nat) : TV := .bp bo (.agg (pC (.bp bo' (.agg (bM r c))) M tr))

theorem pV_facts {pg : Pg} {bo bo' : Bool} {r c : Nat} {M : List Int} {tr : Nat} (hl : M.length = 36) : ∃ (XB MT : TV), ∀ H,
    dkc pg (den pg) .nilck [pV bo bo' r c M tr] H = some (pV bo bo' r c M tr, H) ∧ dkc pg (den pg) (.fadr 0 1 false) [pV bo bo' r c M tr] H = some (XB, H) ∧ dkc pg (den pg) (.ld 1 false) [XB] H = some (.bp bo' (.agg (bM r c)), H) ∧
    dkc pg (den pg) (.fadr 1 36 true) [pV bo bo' r c M tr] H = some (MT, H) ∧ ∀ (t : Nat) (x : Int), M[t]? = some x → ∃ q, dkc pg (den pg) (.ixA 36 1 false) [MT, .i .i64 (t : Int)] H = some (q, H) ∧ dkc pg (den pg) (.ld 1 false) [q] H = some (.i .i64 x, H) := by
  refine ⟨.bp bo (.bp bo' (.agg (bM r c))), .bp bo (.agg (M.map fun x => .i .i64 x)), fun H => ⟨rfl, ?_, rfl, ?_, fun t x hx => ⟨.bp bo (.i .i64 x), ?_, rfl⟩⟩⟩
  · have : Dn.part 1 false 0 (pC (.bp bo' (.agg (bM r c))) M tr) = some (.bp bo' (.agg (bM r c))) := part_one rfl rfl
    simp [dkc, dk, pV, this]
  · have : Dn.part 36 true 1 (pC (.bp bo' (.agg (bM r c))) M tr) = some (.agg (M.map fun x => .i .i64 x)) := by
      unfold Dn.part
      rw [if_pos rfl, if_pos (by rw [pC_len, hl]; omega)]
      congr 2
      show ((M.map fun x => TV.i .i64 x) ++ [TV.i .u64 (tr : Int)]).take 36 = _
      rw [List.take_append_of_le_length (by simp [hl]), List.take_of_length_le (by simp [hl])]
    simp [dkc, dk, pV, this]
  · have ht := (List.getElem?_eq_some_iff.1 hx).1
    have : Dn.part 1 false t (M.map fun x => TV.i .i64 x) = some (.i .i64 x) := part_one (by rw [List.getElem?_map, hx]; rfl) rfl
    have ht36 : t < 36 := by omega
    simp [dkc, dk, bound, ht36, this]

theorem l75_1_all {pg : Pg} {A C : TV} {l : List Nat} (hA : SV A (nI l)) {n : Nat} (hn : n ≤ 36) (hl : ∀ s, s ∈ l → s < n) (h64 : l.length ≤ 1000000) {P0 : TV} : ∀ (d k own : Nat), k + d = l.length → own < 2 ^ n →
    ∃ e, den pg l75_1 [(2, .ref 0 0), (4, .ref 1 0), (5, C), (10, A), (11, .i .i64 (l.length : Int)), (12, .i .i64 (k : Int))] [.cells [P0] false, .cells [.i .u64 (own : Int)] false] = some ⟨.exit 0, e, [.cells [P0] false, .cells [.i .u64 (bitsF (l.drop k) own : Int)] false]⟩ ∧
      keepE [2, 4, 5] e = [(2, .ref 0 0), (4, .ref 1 0), (5, C)] ∧ bitsF (l.drop k) own < 2 ^ n
  | 0, k, own, hd, ho => by
    rw [List.drop_eq_nil_of_le (by omega)]
    have hb : bitsF [] own = own := rfl
    rw [hb]
    exact ⟨_, by
      rw [l75_1, den_loop]
      simp (disch := omega) [b75_0, go_nil, go_last, go_past, go_pastR, go_blkN, go_blkR, go_blkE, go_skip, go_exit, go_ret, go_scope, go_seq, go_reg, go_regd, go_opdN, go_opd, go_opdG, grdd_b, grdd_u, stpd_some, find_some, go_block, go_cond, cnd_b, go_opsN, go_ops, go_opsG, grd_b, grd_u, stp_some, fin_some, up_some, cont_some, k_call, k_mv, k_pick, k_bin, k_eqB, k_eqA, k_not, k_neg, k_conv, k_alloc, k_boxA, k_boxI, k_boxB, k_boxN, k_boxBs, k_ldR, k_ldA, k_ldI, k_ldB, k_stA, k_stI, k_stB, ldC_some, stC_some, k_mkfn, k_slc, k_slcA, k_ixA, k_ixBs, k_ixSl, k_fadr, k_fld, k_ext, k_len, k_app, k_mn, k_mx, k_nilck, k_build, k_bsl1, k_bsl2, b_add, b_sub, b_mul, b_eql, b_neq, b_lss, b_leq, b_gtr, b_geq, Dn.setLast, Dn.getLast, evalO, mapO, Dn.get, putE, keepE_nil, keepE_cons, kp_some, kp_none, TV.one, TV.isAgg, Dn.part, k_boxR, negb, at0, at1, at2, at3, at4, dT, dF, wrapR_i64, Option.bind_some, Option.map_some]
      rfl, rfl, ho⟩
  | d + 1, k, own, hd, ho => by
    have hx : l[k]? = some l[k] := List.getElem?_eq_getElem (by omega)
    have hdr : l.drop k = l[k] :: l.drop (k + 1) := List.drop_eq_getElem_cons (by omega)
    have hs := hl _ (List.getElem_mem (show k < l.length by omega))
    rw [hdr]
    generalize l[k] = s at *
    obtain ⟨p, p1, p2⟩ := ixI (pg := pg) (R := den pg) (hA.view [.cells [P0] false, .cells [.i .u64 (own : Int)] false]) (nI_at hx)
    have h2s : 2 ^ s < 2 ^ n := Nat.pow_lt_pow_right (by decide) hs
    have h2n : 2 ^ n ≤ 18446744073709551616 := by have := Nat.pow_le_pow_right (n := 2) (by decide) (show n ≤ 64 by omega); omega
    have o1 := or_uu (m := own) (k := 2 ^ s) (by omega) (by omega)
    have sh := Dn.shl_u (k := .u64) (c := s) (by omega)
    have ws := wrap_u (m := s) (by omega)
    have l1 := ld_box (pg := pg) (R := den pg) (H := [.cells [P0] false, .cells [.i .u64 (own : Int)] false]) (id := 1) rfl rfl
    have st := st_box (pg := pg) (R := den pg) (H := [.cells [P0] false, .cells [.i .u64 (own : Int)] false]) (id := 1) (ag := false) (v := .i .u64 ((own ||| 2 ^ s : Nat) : Int)) rfl rfl
    obtain ⟨e, e1, e2, e3⟩ := l75_1_all (pg := pg) (C := C) hA hn hl h64 (P0 := P0) d (k + 1) (own ||| 2 ^ s) (by omega) (or_lt ho h2s)
    have hb : bitsF (s :: l.drop (k + 1)) own = bitsF (l.drop (k + 1)) (own ||| 2 ^ s) := rfl
    rw [hb]
    refine ⟨e, Eq.trans ?_ e1, e2, e3⟩
    have hset : ([.cells [P0] false, .cells [.i .u64 (own : Int)] false] : Heap).set 1 (.cells [.i .u64 ((own ||| 2 ^ s : Nat) : Int)] false) = [.cells [P0] false, .cells [.i .u64 ((own ||| 2 ^ s : Nat) : Int)] false] := rfl
    rw [hset] at st
    generalize own ||| 2 ^ s = V at *
    generalize 2 ^ s = U at *
    obtain ⟨HA, hHA⟩ : ∃ HA : Heap, HA = [.cells [P0] false, .cells [.i .u64 (own : Int)] false] := ⟨_, rfl⟩
    obtain ⟨HB, hHB⟩ : ∃ HB : Heap, HB = [.cells [P0] false, .cells [.i .u64 (V : Int)] false] := ⟨_, rfl⟩
    rw [← hHA] at p1 p2 l1 st ⊢
    rw [← hHB] at st ⊢
    rw [l75_1, den_loop]
    simp (disch := omega) [l75_1, b75_0, go_nil, go_last, go_past, go_pastR, go_blkN, go_blkR, go_blkE, go_skip, go_exit, go_ret, go_scope, go_seq, go_reg, go_regd, go_opdN, go_opd, go_opdG, grdd_b, grdd_u, stpd_some, find_some, go_block, go_cond, cnd_b, go_opsN, go_ops, go_opsG, grd_b, grd_u, stp_some, fin_some, up_some, cont_some, k_call, k_mv, k_pick, k_bin, k_eqB, k_eqA, k_not, k_neg, k_conv, k_alloc, k_boxA, k_boxI, k_boxB, k_boxN, k_boxBs, k_ldR, k_ldA, k_ldI, k_ldB, k_stA, k_stI, k_stB, ldC_some, stC_some, k_mkfn, k_slc, k_slcA, k_ixA, k_ixBs, k_ixSl, k_fadr, k_fld, k_ext, k_len, k_app, k_mn, k_mx, k_nilck, k_build, k_bsl1, k_bsl2, b_add, b_sub, b_mul, b_eql, b_neq, b_lss, b_leq, b_gtr, b_geq, Dn.setLast, Dn.getLast, evalO, mapO, Dn.get, putE, keepE_nil, keepE_cons, kp_some, kp_none, TV.one, TV.isAgg, Dn.part, k_boxR, negb, at0, at1, at2, at3, at4, dT, dF, wrapR_i64, Option.bind_some, Option.map_some, p1, p2, l1, ws, sh, o1, st]

structure RS (r c lp : Nat) (PV : TV) (H : Heap) (own : Nat) : Prop where
  a0 : H[0]? = some (.cells [PV] false)
  a1 : H[1]? = some (.cells [.i .u64 (own : Int)] false)
  len : lp < H.length
  lt : own < 2 ^ (r * c)

theorem RS.set {r c lp : Nat} {PV : TV} {H : Heap} {own : Nat} (h : RS r c lp PV H own) {j : Nat} (hj : 2 ≤ j) (o : AObj) : RS r c lp PV (H.set j o) own :=
  ⟨by rw [List.getElem?_set_ne (by omega)]; exact h.a0, by rw [List.getElem?_set_ne (by omega)]; exact h.a1, by simpa using h.len, h.lt⟩

theorem reach_round {pg : Pg} {r c lp : Nat} {bo bo' : Bool} {M : List Int} {tr : Nat} (h : Brd r c) (hM : MOk (r * c) M) (hlp : 3 ≤ lp) {L : ALoop} {ks : List Nat} {e : Env} {x5 x8 : TV}
    (hL : L = lp1 a75_2 b75_3 34 [2, 4, 5, 8] e) (he : keepE [2, 4, 5, 8] e = [(2, .ref 0 0), (4, .ref 1 0), (5, x5), (8, x8)]) {o : Nat} :
    Rnd pg lp (lp - 1) L (fun l H => ∃ own, RS r c lp (pV bo bo' r c M tr) H own ∧ (∀ t, t ∈ l → t < r * c) ∧ addMates M l own = o) (fun _ _ => False) := by
  rintro t rest H ⟨own, hS, hts, ho⟩ hlpc hk
  have hn := h.n36
  have h1n := lv64 h
  have ht := hts t (by simp)
  obtain ⟨XB, MT, hf⟩ := pV_facts (pg := pg) (bo := bo) (bo' := bo') (r := r) (c := c) (M := M) (tr := tr) hM.1
  obtain ⟨HB, hHB⟩ : ∃ HB, HB = H.set lp (.loop { L with st := .busy }) := ⟨_, rfl⟩
  have pB : RS r c lp (pV bo bo' r c M tr) HB own := by rw [hHB]; exact hS.set (by omega) _
  have hlB : HB[lp]? = some (.loop { L with st := .busy }) := by rw [hHB, List.getElem?_set_self hS.len]
  have hsB : HB[lp - 1]? = H[lp - 1]? := by rw [hHB, List.getElem?_set_ne (by omega)]
  have hLe : L.env = [(2, .ref 0 0), (4, .ref 1 0), (5, x5), (8, x8)] := by rw [hL]; exact he
  have hLa : L.assign = a75_2 := by rw [hL]; rfl
  have hLb : L.body = b75_3 := by rw [hL]; rfl
  have hLp : L.params = [34] := by rw [hL]; rfl
  have ha1 : den pg L.assign ((L.params.zip [.i .i64 (t : Int)]).reverse ++ L.env) H = some ⟨.normal, [(2, .ref 0 0), (4, .ref 1 0), (9, .i .i64 (t : Int))], H⟩ := by
    rw [hLe, hLa, hLp, den_eq, runC_go]
    simp [a75_2, go_nil, go_last, go_past, go_pastR, go_blkN, go_blkR, go_blkE, go_skip, go_exit, go_ret, go_scope, go_seq, go_reg, go_regd, go_opdN, go_opd, go_opdG, grdd_b, grdd_u, stpd_some, find_some, go_block, go_cond, cnd_b, go_opsN, go_ops, go_opsG, grd_b, grd_u, stp_some, fin_some, up_some, cont_some, k_call, k_mv, k_pick, k_bin, k_eqB, k_eqA, k_not, k_neg, k_conv, k_alloc, k_boxA, k_boxI, k_boxB, k_boxN, k_boxBs, k_ldR, k_ldA, k_ldI, k_ldB, k_stA, k_stI, k_stB, ldC_some, stC_some, k_mkfn, k_slc, k_slcA, k_ixA, k_ixBs, k_ixSl, k_fadr, k_fld, k_ext, k_len, k_app, k_mn, k_mx, k_nilck, k_build, k_bsl1, k_bsl2, b_add, b_sub, b_mul, b_eql, b_neq, b_lss, b_leq, b_gtr, b_geq, Dn.setLast, Dn.getLast, evalO, mapO, Dn.get, putE, keepE, TV.one, TV.isAgg, Dn.part]
  have l0 := ld_box (pg := pg) (R := den pg) pB.a0 rfl
  have l1 := ld_box (pg := pg) (R := den pg) pB.a1 rfl
  obtain ⟨n1, _, _, f1, fm⟩ := hf HB
  obtain ⟨q, q1, q2⟩ := fm t _ (getD_some (l := M) (x := t) (by rw [hM.1]; omega))
  have hmb := hM.2 t (by omega)
  have hown := pB.lt
  have ho' : addMates M rest (if M.getD t 0 < 0 then own else own ||| 2 ^ (M.getD t 0).toNat) = o := ho
  by_cases hneg : M.getD t 0 < 0
  · rw [if_pos hneg] at ho'
    have hbd : den pg L.body [(2, .ref 0 0), (4, .ref 1 0), (9, .i .i64 (t : Int))] HB = some ⟨.normal, [(2, .ref 0 0), (4, .ref 1 0), (9, .i .i64 (t : Int)), (41, .b false)], HB⟩ := by
      rw [hLb, den_eq, runC_go]
      generalize pV bo bo' r c M tr = PP at *
      generalize M.getD t 0 = Y at *
      simp (disch := omega) [b75_3, go_nil, go_last, go_past, go_pastR, go_blkN, go_blkR, go_blkE, go_skip, go_exit, go_ret, go_scope, go_seq, go_reg, go_regd, go_opdN, go_opd, go_opdG, grdd_b, grdd_u, stpd_some, find_some, go_block, go_cond, cnd_b, go_opsN, go_ops, go_opsG, grd_b, grd_u, stp_some, fin_some, up_some, cont_some, k_call, k_mv, k_pick, k_bin, k_eqB, k_eqA, k_not, k_neg, k_conv, k_alloc, k_boxA, k_boxI, k_boxB, k_boxN, k_boxBs, k_ldR, k_ldA, k_ldI, k_ldB, k_stA, k_stI, k_stB, ldC_some, stC_some, k_mkfn, k_slc, k_slcA, k_ixA, k_ixBs, k_ixSl, k_fadr, k_fld, k_ext, k_len, k_app, k_mn, k_mx, k_nilck, k_build, k_bsl1, k_bsl2, b_add, b_sub, b_mul, b_eql, b_neq, b_lss, b_leq, b_gtr, b_geq, Dn.setLast, Dn.getLast, evalO, mapO, Dn.get, putE, keepE_nil, keepE_cons, kp_some, kp_none, TV.one, TV.isAgg, Dn.part, k_boxR, negb, at0, at1, at2, at3, at4, dT, dF, wrapR_i64, Option.bind_some, Option.map_some, l0, n1, f1, q1, q2]
    refine .inl ⟨HB.set lp (.loop L), Body.of ha1 hlpc (by rw [← hHB]; exact hbd) hlB, ⟨own, pB.set (by omega) _, fun x hx => hts x (by simp [hx]), ho'⟩, ?_⟩
    rw [List.getElem?_set_ne (by omega)]; exact hsB
  · rw [if_neg hneg] at ho'
    obtain ⟨m, hm⟩ : ∃ m : Nat, M.getD t 0 = (m : Int) := ⟨(M.getD t 0).toNat, by omega⟩
    rw [hm] at q2 hmb ho' hneg
    rw [Int.toNat_natCast] at ho'
    have h2m : 2 ^ m < 2 ^ (r * c) := Nat.pow_lt_pow_right (by decide) (by omega)
    have wm := wrap_u (m := m) (by omega)
    have sh := Dn.shl_u (k := .u64) (c := m) (by omega)
    have o1 := or_uu (m := own) (k := 2 ^ m) (by omega) (by omega)
    have st := st_box (pg := pg) (R := den pg) (v := .i .u64 ((own ||| 2 ^ m : Nat) : Int)) pB.a1 rfl
    have h1l := (List.getElem?_eq_some_iff.1 pB.a1).1
    obtain ⟨H1, hH1⟩ : ∃ H1, H1 = HB.set 1 (.cells [.i .u64 ((own ||| 2 ^ m : Nat) : Int)] false) := ⟨_, rfl⟩
    have p1 : RS r c lp (pV bo bo' r c M tr) H1 (own ||| 2 ^ m) := by
      rw [hH1]
      exact ⟨by rw [List.getElem?_set_ne (by omega)]; exact pB.a0, by rw [List.getElem?_set_self h1l], by simpa using pB.len, or_lt hown h2m⟩
    rw [← hH1] at st
    have hbd : den pg L.body [(2, .ref 0 0), (4, .ref 1 0), (9, .i .i64 (t : Int))] HB = some ⟨.normal, [], H1⟩ := by
      rw [hLb, den_eq, runC_go]
      generalize pV bo bo' r c M tr = PP at *
      generalize own ||| 2 ^ m = V at *
      generalize 2 ^ m = U at *
      simp (disch := omega) [b75_3, go_nil, go_last, go_past, go_pastR, go_blkN, go_blkR, go_blkE, go_skip, go_exit, go_ret, go_scope, go_seq, go_reg, go_regd, go_opdN, go_opd, go_opdG, grdd_b, grdd_u, stpd_some, find_some, go_block, go_cond, cnd_b, go_opsN, go_ops, go_opsG, grd_b, grd_u, stp_some, fin_some, up_some, cont_some, k_call, k_mv, k_pick, k_bin, k_eqB, k_eqA, k_not, k_neg, k_conv, k_alloc, k_boxA, k_boxI, k_boxB, k_boxN, k_boxBs, k_ldR, k_ldA, k_ldI, k_ldB, k_stA, k_stI, k_stB, ldC_some, stC_some, k_mkfn, k_slc, k_slcA, k_ixA, k_ixBs, k_ixSl, k_fadr, k_fld, k_ext, k_len, k_app, k_mn, k_mx, k_nilck, k_build, k_bsl1, k_bsl2, b_add, b_sub, b_mul, b_eql, b_neq, b_lss, b_leq, b_gtr, b_geq, Dn.setLast, Dn.getLast, evalO, mapO, Dn.get, putE, keepE_nil, keepE_cons, kp_some, kp_none, TV.one, TV.isAgg, Dn.part, k_boxR, negb, at0, at1, at2, at3, at4, dT, dF, wrapR_i64, Option.bind_some, Option.map_some, l0, l1, n1, f1, q1, q2, wm, sh, o1, st]
    refine .inl ⟨H1.set lp (.loop L), Body.of ha1 hlpc (by rw [← hHB]; exact hbd) (by rw [hH1, List.getElem?_set_ne (by omega)]; exact hlB), ⟨own ||| 2 ^ m, p1.set (by omega) _, fun x hx => hts x (by simp [hx]), ho'⟩, ?_⟩
    rw [List.getElem?_set_ne (by omega), hH1, List.getElem?_set_ne (by omega)]; exact hsB

theorem l75_5_all {pg : Pg} (hF : Free pg) {r c : Nat} {bo bo' : Bool} {M : List Int} {tr : Nat} (h : Brd r c) (hM : MOk (r * c) M) : ∀ (f own last other : Nat) (H : Heap), RS r c 1 (pV bo bo' r c M tr) H own → untr (r * c) own + 2 ≤ f →
    ∃ e H', den pg l75_5 [(2, .ref 0 0), (4, .ref 1 0), (5, .i .u64 (other : Int)), (8, .i .u64 (last : Int))] H = some ⟨.exit 2, e, H'⟩ ∧ keepE [4, 5] e = [(4, .ref 1 0), (5, .i .u64 ((reachF r c M f own last other).2 : Int))] ∧ RS r c 1 (pV bo bo' r c M tr) H' (reachF r c M f own last other).1
  | 0, own, last, other, H, hS, hf => by omega
  | f + 1, own, last, other, H, hS, hf => by
    have hn := h.n36
    have h1n := lv64 h
    have l1 := ld_box (pg := pg) (R := den pg) hS.a1 rfl
    have hr : reachF r c M (f + 1) own last other = if last = own then (own, other) else reachF r c M f (addMates M (mem64 (around r c own)) own) own (around r c own) := rfl
    rw [hr]
    by_cases he : last = own
    · rw [if_pos he]
      subst he
      refine ⟨_, H, by
        rw [l75_5, den_loop]
        simp (disch := omega) [b75_4, go_nil, go_last, go_past, go_pastR, go_blkN, go_blkR, go_blkE, go_skip, go_exit, go_ret, go_scope, go_seq, go_reg, go_regd, go_opdN, go_opd, go_opdG, grdd_b, grdd_u, stpd_some, find_some, go_block, go_cond, cnd_b, go_opsN, go_ops, go_opsG, grd_b, grd_u, stp_some, fin_some, up_some, cont_some, k_call, k_mv, k_pick, k_bin, k_eqB, k_eqA, k_not, k_neg, k_conv, k_alloc, k_boxA, k_boxI, k_boxB, k_boxN, k_boxBs, k_ldR, k_ldA, k_ldI, k_ldB, k_stA, k_stI, k_stB, ldC_some, stC_some, k_mkfn, k_slc, k_slcA, k_ixA, k_ixBs, k_ixSl, k_fadr, k_fld, k_ext, k_len, k_app, k_mn, k_mx, k_nilck, k_build, k_bsl1, k_bsl2, b_add, b_sub, b_mul, b_eql, b_neq, b_lss, b_leq, b_gtr, b_geq, Dn.setLast, Dn.getLast, evalO, mapO, Dn.get, putE, keepE_nil, keepE_cons, kp_some, kp_none, TV.one, TV.isAgg, Dn.part, k_boxR, negb, at0, at1, at2, at3, at4, dT, dF, wrapR_i64, Option.bind_some, Option.map_some, l1, bneF]
        rfl, rfl, hS⟩
    · rw [if_neg he]
      obtain ⟨XB, MT, hfx⟩ := pV_facts (pg := pg) (bo := bo) (bo' := bo') (r := r) (c := c) (M := M) (tr := tr) hM.1
      obtain ⟨n1, f0, lx, _, _⟩ := hfx H
      have l0 := ld_box (pg := pg) (R := den pg) hS.a0 rfl
      have hown := hS.lt
      have c71 := call71 (pg := pg) hF (bo := bo') h hown H
      have har := around_lt h hown
      have hmem : ∀ t, t ∈ mem64 (around r c own) → t < r * c := fun t ht => mem64_in har ht
      obtain ⟨H1, hH1⟩ : ∃ H1 : Heap, H1 = H ++ [.cells [.i .u64 (around r c own : Int)] false] := ⟨_, rfl⟩
      have hl1 : H1.length = H.length + 1 := by rw [hH1]; simp
      have b63 := body63 (pg := pg) hF (around r c own) H
      rw [← hH1] at b63
      have hHl := hS.len
      obtain ⟨L, hL⟩ : ∃ L, L = lp1 a75_2 b75_3 34 [2, 4, 5, 8] [(2, .ref 0 0), (4, .ref 1 0), (5, .i .u64 (around r c own : Int)), (8, .i .u64 (own : Int)), (33, .fn 93 [] [.ref H.length 0])] := ⟨_, rfl⟩
      have hkeep : keepE [2, 4, 5, 8] ([(2, .ref 0 0), (4, .ref 1 0), (5, .i .u64 (around r c own : Int)), (8, .i .u64 (own : Int)), (33, .fn 93 [] [.ref H.length 0])] : Env) = [(2, .ref 0 0), (4, .ref 1 0), (5, .i .u64 (around r c own : Int)), (8, .i .u64 (own : Int))] := rfl
      have kl : ∀ j, j < H.length → (H1 ++ [.loop L])[j]? = H[j]? := fun j hj => by rw [List.getElem?_append_left (by omega), hH1, List.getElem?_append_left hj]
      have hS0 : RS r c H1.length (pV bo bo' r c M tr) (H1 ++ [.loop L]) own := ⟨by rw [kl 0 (by omega)]; exact hS.a0, by rw [kl 1 (by omega)]; exact hS.a1, by simp, hown⟩
      rcases rng hF (f := 33) (s := H.length) (p := 34) (as_ := a75_2) (bd := b75_3) (ks := [2, 4, 5, 8]) (e := [(2, .ref 0 0), (4, .ref 1 0), (5, .i .u64 (around r c own : Int)), (8, .i .u64 (own : Int)), (33, .fn 93 [] [.ref H.length 0])]) (H := H1) (x := around r c own) rfl (by rw [hH1]; exact getLast _ _) (by omega)
          (P := fun l K => ∃ own', RS r c H1.length (pV bo bo' r c M tr) K own' ∧ (∀ t, t ∈ l → t < r * c) ∧ addMates M l own' = addMates M (mem64 (around r c own)) own) (Q := fun _ _ => False) (by rw [← hL]; exact ⟨own, hS0, hmem, rfl⟩)
          (fun l K cc ⟨o, g1, g2, g3⟩ => ⟨o, g1.set (by omega) _, g2, g3⟩) (by rw [← hL]; have := reach_round (pg := pg) (bo := bo) (bo' := bo') (tr := tr) (ks := []) h hM (lp := H1.length) (by omega) hL hkeep (o := addMates M (mem64 (around r c own)) own); rwa [show H1.length - 1 = H.length by omega] at this) with ⟨H6, r1, own2, g1, _, g2⟩ | ⟨_, _, _, _, hfalse⟩
      · have g2' : own2 = addMates M (mem64 (around r c own)) own := g2
        subst g2'
        rw [← hL, hkeep] at r1
        obtain ⟨H7, hH7⟩ : ∃ H7, H7 = H6.set H1.length (.loop { L with st := .exhausted }) := ⟨_, rfl⟩
        rw [← hH7] at r1
        have g7 := g1.set (j := H1.length) (by omega) (.loop { L with st := .exhausted })
        rw [← hH7] at g7
        have hlt2 := g7.lt
        have g8 : RS r c 1 (pV bo bo' r c M tr) H7 (addMates M (mem64 (around r c own)) own) := ⟨g7.a0, g7.a1, by have := g7.len; omega, hlt2⟩
        have hge : ∀ i, own.testBit i = true → (addMates M (mem64 (around r c own)) own).testBit i = true := fun i hi => addMates_ge M i _ _ hi
        have step : den pg l75_5 [(2, .ref 0 0), (4, .ref 1 0), (5, .i .u64 (other : Int)), (8, .i .u64 (last : Int))] H = den pg l75_5 [(2, .ref 0 0), (4, .ref 1 0), (5, .i .u64 (around r c own : Int)), (8, .i .u64 (own : Int))] H7 := by
          have hne : (((last : Int) != (own : Int)) = true) := bneT (by omega)
          generalize pV bo bo' r c M tr = PP at *
          generalize TV.bp bo' (.agg (bM r c)) = BB at *
          generalize (around r c own : Int) = AA at *
          rw [l75_5, den_loop]
          simp (disch := omega) [l75_5, b75_4, go_nil, go_last, go_past, go_pastR, go_blkN, go_blkR, go_blkE, go_skip, go_exit, go_ret, go_scope, go_seq, go_reg, go_regd, go_opdN, go_opd, go_opdG, grdd_b, grdd_u, stpd_some, find_some, go_block, go_cond, cnd_b, go_opsN, go_ops, go_opsG, grd_b, grd_u, stp_some, fin_some, up_some, cont_some, k_call, k_mv, k_pick, k_bin, k_eqB, k_eqA, k_not, k_neg, k_conv, k_alloc, k_boxA, k_boxI, k_boxB, k_boxN, k_boxBs, k_ldR, k_ldA, k_ldI, k_ldB, k_stA, k_stI, k_stB, ldC_some, stC_some, k_mkfn, k_slc, k_slcA, k_ixA, k_ixBs, k_ixSl, k_fadr, k_fld, k_ext, k_len, k_app, k_mn, k_mx, k_nilck, k_build, k_bsl1, k_bsl2, b_add, b_sub, b_mul, b_eql, b_neq, b_lss, b_leq, b_gtr, b_geq, Dn.setLast, Dn.getLast, evalO, mapO, Dn.get, putE, keepE_nil, keepE_cons, kp_some, kp_none, TV.one, TV.isAgg, Dn.part, k_boxR, negb, at0, at1, at2, at3, at4, dT, dF, wrapR_i64, Option.bind_some, Option.map_some, l1, hne, l0, n1, f0, lx, c71, sh_fn, b63, r1]
        rw [step]
        by_cases heq : addMates M (mem64 (around r c own)) own = own
        · rw [heq] at g8 ⊢
          have l1' := ld_box (pg := pg) (R := den pg) g8.a1 rfl
          have hr0 : reachF r c M f own own (around r c own) = (own, around r c own) := by cases f <;> simp [reachF]
          rw [hr0]
          refine ⟨_, H7, by
            rw [l75_5, den_loop]
            simp (disch := omega) [b75_4, go_nil, go_last, go_past, go_pastR, go_blkN, go_blkR, go_blkE, go_skip, go_exit, go_ret, go_scope, go_seq, go_reg, go_regd, go_opdN, go_opd, go_opdG, grdd_b, grdd_u, stpd_some, find_some, go_block, go_cond, cnd_b, go_opsN, go_ops, go_opsG, grd_b, grd_u, stp_some, fin_some, up_some, cont_some, k_call, k_mv, k_pick, k_bin, k_eqB, k_eqA, k_not, k_neg, k_conv, k_alloc, k_boxA, k_boxI, k_boxB, k_boxN, k_boxBs, k_ldR, k_ldA, k_ldI, k_ldB, k_stA, k_stI, k_stB, ldC_some, stC_some, k_mkfn, k_slc, k_slcA, k_ixA, k_ixBs, k_ixSl, k_fadr, k_fld, k_ext, k_len, k_app, k_mn, k_mx, k_nilck, k_build, k_bsl1, k_bsl2, b_add, b_sub, b_mul, b_eql, b_neq, b_lss, b_leq, b_gtr, b_geq, Dn.setLast, Dn.getLast, evalO, mapO, Dn.get, putE, keepE_nil, keepE_cons, kp_some, kp_none, TV.one, TV.isAgg, Dn.part, k_boxR, negb, at0, at1, at2, at3, at4, dT, dF, wrapR_i64, Option.bind_some, Option.map_some, l1', bneF]
            rfl, rfl, g8⟩
        · have hun := untr_grow hown hlt2 hge heq
          exact l75_5_all hF h hM f _ own _ H7 g8 (by omega)
      · exact hfalse.elim

theorem bitsF_lt {n : Nat} : ∀ (l : List Nat) (own : Nat), (∀ s, s ∈ l → s < n) → own < 2 ^ n → bitsF l own < 2 ^ n
  | [], own, _, h => h
  | s :: l, own, hl, h => bitsF_lt l _ (fun x hx => hl x (by simp [hx])) (or_lt h (Nat.pow_lt_pow_right (by decide) (hl s (by simp))))

theorem fn75 {pg : Pg} (hF : Free pg) {r c : Nat} {bo bo' : Bool} {M : List Int} {tr : Nat} (h : Brd r c) (hM : MOk (r * c) M) {A : TV} {l : List Nat} (hA : SV A (nI l)) (hl : ∀ s, s ∈ l → s < r * c) (h64 : l.length ≤ 1000000) :
    PFn pg 75 [pV bo bo' r c M tr, A] (.tup [.i .u64 ((reachS r c M l).1 : Int), .i .u64 ((reachS r c M l).2 : Int)]) := by
  have hn := h.n36
  have hlen := fun K => (hA.view K).lenK K
  rw [nI_len] at hlen
  obtain ⟨PP, hPP⟩ : ∃ PP, PP = pV bo bo' r c M tr := ⟨_, rfl⟩
  have kb : dkc pg (den pg) (.box false) [PP] [] = some (.ref 0 0, [.cells [PP] false]) := by rw [hPP]; exact k_boxP _ _ _
  obtain ⟨e1, k1, k2, k3⟩ := l75_1_all (pg := pg) (C := .i .u64 0) hA hn hl h64 (P0 := PP) l.length 0 0 (by omega) (Nat.two_pow_pos _)
  rw [List.drop_zero] at k1 k3
  simp only [Int.natCast_zero] at k1
  have g2 := keep_get k2 (s := 2) (by simp) rfl
  have g4 := keep_get k2 (s := 4) (by simp) rfl
  have g5 := keep_get k2 (s := 5) (by simp) rfl
  have hS : RS r c 1 (pV bo bo' r c M tr) [.cells [PP] false, .cells [.i .u64 (bitsF l 0 : Int)] false] (bitsF l 0) := ⟨by rw [hPP]; rfl, rfl, by simp, k3⟩
  obtain ⟨e2, H', j1, j2, j3⟩ := l75_5_all (pg := pg) hF h hM 40 (bitsF l 0) 0 0 _ hS (by have := untr_le (r * c) (bitsF l 0); omega)
  have hrs : reachF r c M 40 (bitsF l 0) 0 0 = reachS r c M l := rfl
  rw [hrs] at j2 j3
  simp only [Int.natCast_zero] at j1
  have i4 := keep_get j2 (s := 4) (by simp) rfl
  have i5 := keep_get j2 (s := 5) (by simp) rfl
  have lres := ld_box (pg := pg) (R := den pg) j3.a1 rfl
  have st := st_box (pg := pg) (R := den pg) (v := .i .u64 ((reachS r c M l).1 : Int)) j3.a1 rfl
  rw [set_cell j3.a1] at st
  have ap : ([.cells [PP] false] : Heap) ++ [.cells [.i .u64 0] false] = [.cells [PP] false, .cells [.i .u64 0] false] := rfl
  rw [← hPP]
  refine .of_go (x := .ret) (e := [(4, .ref 1 0), (5, .i .u64 ((reachS r c M l).2 : Int))]) (H' := H') (vs := [.i .u64 ((reachS r c M l).1 : Int), .i .u64 ((reachS r c M l).2 : Int)]) (hF.S _ _ (by decide)) (d := d75) (by rw [hF.F]; rfl) rfl ?_ (.inl rfl) ?_ (by simp [sn_i, sn_b, sn_nil, sn8_i, sn8_b, sn8_nil, sn7_i, sn7_b, sn_sl, sn8_sl, slB_some, sn_tup, sn_agg, sn8_agg, mapO, elems, tupR])
  · obtain ⟨HX, hHX⟩ : ∃ HX : Heap, HX = [.cells [PP] false, .cells [.i .u64 0] false] := ⟨_, rfl⟩
    obtain ⟨HY, hHY⟩ : ∃ HY : Heap, HY = [.cells [PP] false, .cells [.i .u64 (bitsF l 0 : Int)] false] := ⟨_, rfl⟩
    rw [← hHX] at ap k1
    rw [← hHY] at k1 j1
    generalize (reachS r c M l).1 = R1 at *
    generalize (reachS r c M l).2 = R2 at *
    have al : dkc pg (den pg) (.alloc [.i .u64 0] false) [] [.cells [PP] false] = some (.ref 1 0, HX) := by rw [k_alloc, ap]; rfl
    simp only [d75, c75, zipE]
    generalize hH1 : ([.cells [PP] false] : Heap) = HW at *
    simp (disch := omega) [go_nil, go_last, go_past, go_pastR, go_blkN, go_blkR, go_blkE, go_skip, go_exit, go_ret, go_scope, go_seq, go_reg, go_regd, go_opdN, go_opd, go_opdG, grdd_b, grdd_u, stpd_some, find_some, go_block, go_cond, cnd_b, go_opsN, go_ops, go_opsG, grd_b, grd_u, stp_some, fin_some, up_some, cont_some, k_call, k_mv, k_pick, k_bin, k_eqB, k_eqA, k_not, k_neg, k_conv, k_alloc, k_boxA, k_boxI, k_boxB, k_boxN, k_boxBs, k_ldR, k_ldA, k_ldI, k_ldB, k_stA, k_stI, k_stB, ldC_some, stC_some, k_mkfn, k_slc, k_slcA, k_ixA, k_ixBs, k_ixSl, k_fadr, k_fld, k_ext, k_len, k_app, k_mn, k_mx, k_nilck, k_build, k_bsl1, k_bsl2, b_add, b_sub, b_mul, b_eql, b_neq, b_lss, b_leq, b_gtr, b_geq, Dn.setLast, Dn.getLast, evalO, mapO, Dn.get, putE, keepE_nil, keepE_cons, kp_some, kp_none, TV.one, TV.isAgg, Dn.part, k_boxR, negb, at0, at1, at2, at3, at4, dT, dF, wrapR_i64, Option.bind_some, Option.map_some, kb, al, hlen, go_denK (c := l75_1) rfl, k1, g2, g4, g5, go_denK (c := l75_5) rfl, j1, i4, i5, lres, st]
  · simp only [d75, mapO, resRun, Dn.get, if_true, Option.bind_some]
    have : dk (.ld 1 false) [.ref 1 0] H' = some (.i .u64 ((reachS r c M l).1 : Int), H') := lres
    rw [this]; rfl

end Go.Proofs.Tryd.Dn

