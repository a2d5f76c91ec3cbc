/-
  Knight: quiet knights and pairs, in the program.
-/
import Derived.Test.YtdjbpmgbaggfbaaDoorKfe
import Derived.Test.YtdjbpmgbaggfbaaDoorDd
import Derived.Test.YtdjbpmgbaggfbaaDoorKff
set_option linter.unusedSimpArgs false
set_option linter.unusedVariables false

namespace Go.Proofs.Tryd.Dn
open Go.Dn

def aloneOf (r c : Nat) : List Nat := (mem64 (colM r c 0)).filter fun s => decide ((matesOf r c).getD s 0 < 0)
def quietS (r c : Nat) : Nat := (reachS r c (matesOf r c) (aloneOf r c)).1 ||| andN (colM r c 1) (reachS r c (matesOf r c) (aloneOf r c)).2

end Go.Proofs.Tryd.Dn

/-
  Knight: pairs, listed by the program and looked at by the reference.
-/

namespace Go.Proofs.Tryd.Dn
open Go.Dn

def elP : El (Int × Int) where
  sz := 2
  ag := true
  enc x := [.i .i64 x.1, .i .i64 x.2]
  pos := by decide
  len _ := rfl
  one _ := rfl
  sc := .inl rfl

theorem elP_flat : elP.Flat := by
  intro m H a f
  show snap m H (f + 2) (.agg [.i .i64 a.1, .i .i64 a.2]) = some (.agg [.i .i64 a.1, .i .i64 a.2])
  rw [snS_agg]
  simp [mapO, snS_i]

structure AccE {α : Type} (E : El α) (A lp : Nat) (H0 H : Heap) (m : List α) : Prop where
  cell : ∃ R, H[A]? = some (.cells [R] false) ∧ E.Own H R m ∧ ∀ id, R.idOf = some id → lp < id
  len : lp < H.length
  old : ∀ j, j < A → H[j]? = H0[j]?

theorem own_one {α : Type} {E : El α} {H : Heap} {R : TV} {m : List α} (h : E.Own H R m) : R.isAgg = false ∧ R.one = true := by
  rcases h with ⟨rfl, _⟩ | ⟨_, id, ag, c, rfl, _⟩ <;> exact ⟨rfl, rfl⟩

theorem AccE.set {α : Type} {E : El α} {A lp : Nat} {H0 H : Heap} {m : List α} (h : AccE E A lp H0 H m) {s : Nat} (h1 : A < s) (h2 : s ≤ lp) (o : AObj) : AccE E A lp H0 (H.set s o) m := by
  obtain ⟨R, r1, r2, r3⟩ := h.cell
  exact ⟨⟨R, by rw [List.getElem?_set_ne (by omega)]; exact r1, r2.mono fun id hid => by have := r3 id hid; rw [List.getElem?_set_ne (by omega)], r3⟩, by have := h.len; simpa using this, fun j hj => by rw [List.getElem?_set_ne (by omega)]; exact h.old j hj⟩

theorem AccE.more {α : Type} {E : El α} {A lp : Nat} {H0 H : Heap} {m : List α} (h : AccE E A lp H0 H m) (hA : A < lp) (K : Heap) : AccE E A lp H0 (H ++ K) m := by
  obtain ⟨R, r1, r2, r3⟩ := h.cell
  have hl := h.len
  exact ⟨⟨R, by rw [List.getElem?_append_left (by omega)]; exact r1, r2.mono fun id hid => by rw [List.getElem?_append_left (r2.lt id hid)], r3⟩, by simp; omega, fun j hj => by rw [List.getElem?_append_left (by omega)]; exact h.old j hj⟩

theorem AccE.push {α : Type} {E : El α} {pg : Pg} {A lp : Nat} {H0 H : Heap} {m : List α} (h : AccE E A lp H0 H m) (hA : A < lp) (v : α) {bytes : Nat} (hb : (m.length + 1) * bytes ≤ 140737488355328) : ∃ R R' H' H2, dkc pg (den pg) (.ld 1 false) [.ref A 0] H = some (R, H) ∧
    appRun E.sz E.ag bytes R (.sl H.length 0 E.sz E.ag 1 (some 1)) (H ++ [.cells (E.enc v) false]) = some (R', H') ∧ dkc pg (den pg) (.st 1) [.ref A 0, R'] H' = some (.undef, H2) ∧
    AccE E A lp H0 H2 (m ++ [v]) ∧ H.length ≤ H2.length ∧ (∀ j, j ≤ lp → j ≠ A → H2[j]? = H[j]?) := by
  obtain ⟨R, r1, r2, r3⟩ := h.cell
  have hAl := (List.getElem?_eq_some_iff.1 r1).1
  have hl := h.len
  obtain ⟨R', H', h1, h2, h3, h4, h5⟩ := El.app (E := E) (bytes := bytes) (r2.mono (H' := H ++ [.cells (E.enc v) false]) fun id hid => by rw [List.getElem?_append_left (r2.lt id hid)]) (view1 E H v) (by simpa using hb)
  have hl' : H.length + 1 ≤ H'.length := by simpa using h3
  have kj : ∀ j, j < H.length → R.idOf ≠ some j → H'[j]? = H[j]? := fun j hj hne => by
    rw [h4 j (by simp; omega) hne, List.getElem?_append_left hj]
  have r3' : ∀ id, R'.idOf = some id → lp < id := fun id hid => by
    rcases h5 with rfl | h5
    · exact r3 id hid
    · have := h5 id hid; simp at this; omega
  have hA' : H'[A]? = some (.cells [R] false) := by rw [kj A hAl (fun he => by have := r3 A he; omega)]; exact r1
  refine ⟨R, R', H', H'.set A (.cells [R'] false), ld_box r1 (own_one r2).1, h1, st_box hA' (own_one h2).2, ⟨⟨R', ?_, ?_, r3'⟩, by simp; omega, fun j hj => ?_⟩, by simp; omega, fun j hj hne => ?_⟩
  · rw [List.getElem?_set_self (by omega)]
  · exact h2.mono fun id hid => by have := r3' id hid; rw [List.getElem?_set_ne (by omega)]
  · rw [List.getElem?_set_ne (by omega), kj j (by omega) (fun he => by have := r3 j he; omega)]; exact h.old j hj
  · rw [List.getElem?_set_ne (by omega), kj j (by omega) (fun he => by have := r3 j he; omega)]

theorem k_bsl22 {pg : Pg} {R : Rec} (a b : Int) (H : Heap) : dkc pg R (.bsl false [.i .i64 0, .i .i64 0] true 1 [0]) [.agg [.i .i64 a, .i .i64 b]] H = some (.sl H.length 0 2 true 1 (some 1), H ++ [.cells [.i .i64 a, .i .i64 b] false]) := by
  simp [dkc, dk, fillP, repl, put2, TV.cells, TV.one, List.replicate]
theorem k_bld2 {pg : Pg} {R : Rec} (a b : Int) (H : Heap) : dkc pg R (.build [.i .i64 0, .i .i64 0] [(0, 1), (1, 1)]) [.i .i64 a, .i .i64 b] H = some (.agg [.i .i64 a, .i .i64 b], H) := by
  simp [dkc, dk, fillP, put2, TV.cells, TV.one]

def pairSq (r c : Nat) : List Nat := (mem64 (colM r c 0)).filter fun s => decide ((matesOf r c).getD s 0 ≠ -1)
def pairL (r c : Nat) (l : List Nat) : List (Int × Int) := l.map fun (s : Nat) => ((s : Int), (matesOf r c).getD s 0)
def pairsOf (r c : Nat) : List (Int × Int) := pairL r c (pairSq r c)

structure QP (r c P A lp : Nat) (BV : TV) (M : List Int) (tr : Nat) (H0 H : Heap) (m : List (Int × Int)) : Prop where
  acc : AccE elP A lp H0 H m
  p : H[P]? = some (.cells (pC BV M tr) true)
  q : H[A - 1]? = some (.cells [.ref P 0] false)

theorem QP.set {r c P A lp : Nat} {BV : TV} {M : List Int} {tr : Nat} {H0 H : Heap} {m : List (Int × Int)} (h : QP r c P A lp BV M tr H0 H m) (hP : P < A - 1) {s : Nat} (h1 : A < s) (h2 : s ≤ lp) (o : AObj) : QP r c P A lp BV M tr H0 (H.set s o) m :=
  ⟨h.acc.set h1 h2 o, by rw [List.getElem?_set_ne (by omega)]; exact h.p, by rw [List.getElem?_set_ne (by omega)]; exact h.q⟩

theorem pairs_round {pg : Pg} {r c P A lp : Nat} {BV : TV} {tr : Nat} {H0 : Heap} (h : Brd r c) (hP : P < A - 1) (hlp : lp = A + 2) {L : ALoop} {e : Env}
    (hL : L = lp1 a46_0 b46_1 29 [8, 9] e) (he : keepE [8, 9] e = [(8, .ref (A - 1) 0), (9, .ref A 0)]) {o : List (Int × Int)} (ho36 : o.length ≤ 64) :
    Rnd pg lp (A + 1) L (fun l H => ∃ m, QP r c P A lp BV (matesOf r c) tr H0 H m ∧ (∀ t, t ∈ l → t < r * c) ∧ m ++ pairL r c (l.filter fun s => decide ((matesOf r c).getD s 0 ≠ -1)) = o) (fun _ _ => False) := by
  rintro s rest H ⟨m, hS, hts, ho⟩ hlpc hk
  have hn := h.n36
  have hs := hts s (by simp)
  have hml := (matesOf_ok h).1
  have hl := hS.acc.len
  obtain ⟨HB, hHB⟩ : ∃ HB, HB = H.set lp (.loop { L with st := .busy }) := ⟨_, rfl⟩
  have pB : QP r c P A lp BV (matesOf r c) tr H0 HB m := by rw [hHB]; exact hS.set hP (by omega) (by omega) _
  have hlB : HB[lp]? = some (.loop { L with st := .busy }) := by rw [hHB, List.getElem?_set_self hl]
  have hsB : HB[A + 1]? = H[A + 1]? := by rw [hHB, List.getElem?_set_ne (by omega)]
  have hLe : L.env = [(8, .ref (A - 1) 0), (9, .ref A 0)] := by rw [hL]; exact he
  have hLa : L.assign = a46_0 := by rw [hL]; rfl
  have hLb : L.body = b46_1 := by rw [hL]; rfl
  have hLp : L.params = [29] := by rw [hL]; rfl
  have ha1 : den pg L.assign ((L.params.zip [.i .i64 (s : Int)]).reverse ++ L.env) H = some ⟨.normal, [(8, .ref (A - 1) 0), (9, .ref A 0), (10, .i .i64 (s : Int))], H⟩ := by
    rw [hLe, hLa, hLp, den_eq, runC_go]
    simp [a46_0, go_nil, go_last, go_past, go_pastR, go_blkN, go_blkR, go_blkE, go_skip, go_exit, go_ret, go_scope, go_seq, go_reg, go_regd, go_opdN, go_opd, go_opdG, grdd_b, grdd_u, stpd_some, find_some, go_block, go_cond, cnd_b, go_opsN, go_ops, go_opsG, grd_b, grd_u, stp_some, fin_some, up_some, cont_some, k_call, k_mv, k_pick, k_bin, k_eqB, k_eqA, k_not, k_neg, k_conv, k_alloc, k_boxA, k_boxI, k_boxB, k_boxN, k_boxBs, k_ldR, k_ldA, k_ldI, k_ldB, k_stA, k_stI, k_stB, ldC_some, stC_some, k_mkfn, k_slc, k_slcA, k_ixA, k_ixBs, k_ixSl, k_fadr, k_fld, k_ext, k_len, k_app, k_mn, k_mx, k_nilck, k_build, k_bsl1, k_bsl2, b_add, b_sub, b_mul, b_eql, b_neq, b_lss, b_leq, b_gtr, b_geq, Dn.setLast, Dn.getLast, evalO, mapO, Dn.get, putE, keepE, TV.one, TV.isAgg, Dn.part]
  have lq := ld_box (pg := pg) (R := den pg) pB.q rfl
  have ixs := fun K => ix_p (pg := pg) (R := den pg) (P := P) (H := K) (t := s) (by omega) .i64
  have lm := ld_pM (pg := pg) (R := den pg) pB.p (getD_some (l := matesOf r c) (x := s) (by omega))
  have fd : ∀ (K : Heap) (o sz : Nat) (ag : Bool), dkc pg (den pg) (.fadr o sz ag) [.ref P 0] K = some (.ref P o, K) := fun K o sz ag => by rw [k_fadr]; simp
  have hBl := pB.acc.len
  obtain ⟨X, hX⟩ : ∃ X, X = HB.length := ⟨_, rfl⟩
  have hval : pairL r c (s :: rest.filter fun s => decide ((matesOf r c).getD s 0 ≠ -1)) = ((s : Int), (matesOf r c).getD s 0) :: pairL r c (rest.filter fun s => decide ((matesOf r c).getD s 0 ≠ -1)) := rfl
  rw [List.filter_cons] at ho
  generalize (matesOf r c).getD s 0 = Y at *
  obtain ⟨HX, hHX⟩ : ∃ HX : Heap, HX = HB ++ [.cells [.i .i64 (s : Int), .i .i64 Y] true] := ⟨_, rfl⟩
  have al : dkc pg (den pg) (.alloc [.i .i64 0, .i .i64 0] true) [] HB = some (.ref X 0, HB ++ [.cells [.i .i64 0, .i .i64 0] true]) := by rw [k_alloc, hX]
  have stX : dkc pg (den pg) (.st 2) [.ref X 0, .agg [.i .i64 (s : Int), .i .i64 Y]] (HB ++ [.cells [.i .i64 0, .i .i64 0] true]) = some (.undef, HX) := by
    rw [k_stA, hX, getLast, stC_some, if_pos ⟨rfl, rfl, by simp⟩, Dn.setLast, hHX]
    simp [put2]
  have ldX : dkc pg (den pg) (.ld 2 true) [.ref X 0] HX = some (.agg [.i .i64 (s : Int), .i .i64 Y], HX) := by
    rw [k_ldR, hHX, hX, getLast, ldC_some]; rfl
  have kX : ∀ j, j < HB.length → HX[j]? = HB[j]? := fun j hj => by rw [hHX, List.getElem?_append_left hj]
  have pX : QP r c P A lp BV (matesOf r c) tr H0 HX m := ⟨by rw [hHX]; exact pB.acc.more (by omega) _, by rw [kX P (by omega)]; exact pB.p, by rw [kX _ (by omega)]; exact pB.q⟩
  have bld := fun (b : Int) K => k_bld2 (pg := pg) (R := den pg) (s : Int) b K
  by_cases hneg : Y = -1
  · subst hneg
    rw [if_neg (by simp)] at ho
    have hbd : den pg L.body [(8, .ref (A - 1) 0), (9, .ref A 0), (10, .i .i64 (s : Int))] HB = some ⟨.normal, [(9, .ref A 0), (11, .ref X 0), (41, .b false)], HX⟩ := by
      rw [hLb, den_eq, runC_go]
      simp (disch := omega) [b46_1, go_nil, go_last, go_past, go_pastR, go_blkN, go_blkR, go_blkE, go_skip, go_exit, go_ret, go_scope, go_seq, go_reg, go_regd, go_opdN, go_opd, go_opdG, grdd_b, grdd_u, stpd_some, find_some, go_block, go_cond, cnd_b, go_opsN, go_ops, go_opsG, grd_b, grd_u, stp_some, fin_some, up_some, cont_some, k_call, k_mv, k_pick, k_bin, k_eqB, k_eqA, k_not, k_neg, k_conv, k_alloc, k_boxA, k_boxI, k_boxB, k_boxN, k_boxBs, k_ldR, k_ldA, k_ldI, k_ldB, k_stA, k_stI, k_stB, ldC_some, stC_some, k_mkfn, k_slc, k_slcA, k_ixA, k_ixBs, k_ixSl, k_fadr, k_fld, k_ext, k_len, k_app, k_mn, k_mx, k_nilck, k_build, k_bsl1, k_bsl2, b_add, b_sub, b_mul, b_eql, b_neq, b_lss, b_leq, b_gtr, b_geq, Dn.setLast, Dn.getLast, evalO, mapO, Dn.get, putE, keepE_nil, keepE_cons, kp_some, kp_none, TV.one, TV.isAgg, Dn.part, k_boxR, negb, at0, at1, at2, at3, at4, dT, dF, wrapR_i64, Option.bind_some, Option.map_some, lq, fd, ixs, lm, bld, al, stX, ldX, eqL, eqS]
    refine .inl ⟨HX.set lp (.loop L), Body.of ha1 hlpc (by rw [← hHB]; exact hbd) (by rw [kX lp (by omega)]; exact hlB), ⟨m, pX.set hP (by omega) (by omega) _, fun x hx => hts x (by simp [hx]), ho⟩, ?_⟩
    rw [List.getElem?_set_ne (by omega), kX _ (by omega)]; exact hsB
  · rw [if_pos (by simpa using hneg), hval] at ho
    have hml2 : (m.length + 1) * 16 ≤ 140737488355328 := by
      have := congrArg List.length ho
      rw [List.length_append, List.length_cons] at this
      omega
    obtain ⟨R, R', H4, H5, p1, p2, p3, p4, p5, p6⟩ := pX.acc.push (pg := pg) (by omega) ((s : Int), Y) hml2
    have p2' : appRun 2 true 16 R (.sl HX.length 0 2 true 1 (some 1)) (HX ++ [.cells [.i .i64 (s : Int), .i .i64 Y] false]) = some (R', H4) := p2
    have bs := k_bsl22 (pg := pg) (R := den pg) (s : Int) Y HX
    have hne : (Y == -1) = false := beqF hneg
    have hbd : den pg L.body [(8, .ref (A - 1) 0), (9, .ref A 0), (10, .i .i64 (s : Int))] HB = some ⟨.normal, [], H5⟩ := by
      rw [hLb, den_eq, runC_go]
      simp (disch := omega) [b46_1, go_nil, go_last, go_past, go_pastR, go_blkN, go_blkR, go_blkE, go_skip, go_exit, go_ret, go_scope, go_seq, go_reg, go_regd, go_opdN, go_opd, go_opdG, grdd_b, grdd_u, stpd_some, find_some, go_block, go_cond, cnd_b, go_opsN, go_ops, go_opsG, grd_b, grd_u, stp_some, fin_some, up_some, cont_some, k_call, k_mv, k_pick, k_bin, k_eqB, k_eqA, k_not, k_neg, k_conv, k_alloc, k_boxA, k_boxI, k_boxB, k_boxN, k_boxBs, k_ldR, k_ldA, k_ldI, k_ldB, k_stA, k_stI, k_stB, ldC_some, stC_some, k_mkfn, k_slc, k_slcA, k_ixA, k_ixBs, k_ixSl, k_fadr, k_fld, k_ext, k_len, k_app, k_mn, k_mx, k_nilck, k_build, k_bsl1, k_bsl2, b_add, b_sub, b_mul, b_eql, b_neq, b_lss, b_leq, b_gtr, b_geq, Dn.setLast, Dn.getLast, evalO, mapO, Dn.get, putE, keepE_nil, keepE_cons, kp_some, kp_none, TV.one, TV.isAgg, Dn.part, k_boxR, negb, at0, at1, at2, at3, at4, dT, dF, wrapR_i64, Option.bind_some, Option.map_some, lq, fd, ixs, lm, bld, al, stX, ldX, eqL, eqS, hne, bs, p1, p2', p3]
    have q5 : QP r c P A lp BV (matesOf r c) tr H0 H5 (m ++ [((s : Int), Y)]) := ⟨p4, by rw [p6 P (by omega) (by omega)]; exact pX.p, by rw [p6 _ (by omega) (by omega)]; exact pX.q⟩
    refine .inl ⟨H5.set lp (.loop L), Body.of ha1 hlpc (by rw [← hHB]; exact hbd) (by rw [p6 _ (by omega) (by omega), kX lp (by omega)]; exact hlB), ⟨m ++ [((s : Int), Y)], q5.set hP (by omega) (by omega) _, fun x hx => hts x (by simp [hx]), by rw [List.append_assoc]; exact ho⟩, ?_⟩
    rw [List.getElem?_set_ne (by omega), p6 _ (by omega) (by omega), kX _ (by omega)]; exact hsB

theorem l46_3_all {pg : Pg} {S : TV} {l : List (Int × Int)} (hl : l.length ≤ 64) {base : Nat} {H0 : Heap} : ∀ (d k : Nat) (R : TV) (m : List (Int × Int)) (H : Heap), k + d = l.length → m.length = k → RowG elP base H0 H R m → elP.View H S l → (∀ id, S.idOf = some id → id < base) →
    ∃ e R' H', den pg l46_3 [(12, R), (46, S), (47, .i .i64 (l.length : Int)), (48, .i .i64 (k : Int))] H = some ⟨.exit 2, e, H'⟩ ∧ Dn.get e 12 = some R' ∧ RowG elP base H0 H' R' (m ++ l.drop k)
  | 0, k, R, m, H, hd, hm, hR, hS, hid => by
    rw [List.drop_eq_nil_of_le (by omega), List.append_nil]
    exact ⟨_, R, H, by
      rw [l46_3, den_loop]
      simp (disch := omega) [b46_2, go_nil, go_last, go_past, go_pastR, go_blkN, go_blkR, go_blkE, go_skip, go_exit, go_ret, go_scope, go_seq, go_reg, go_regd, go_opdN, go_opd, go_opdG, grdd_b, grdd_u, stpd_some, find_some, go_block, go_cond, cnd_b, go_opsN, go_ops, go_opsG, grd_b, grd_u, stp_some, fin_some, up_some, cont_some, k_call, k_mv, k_pick, k_bin, k_eqB, k_eqA, k_not, k_neg, k_conv, k_alloc, k_boxA, k_boxI, k_boxB, k_boxN, k_boxBs, k_ldR, k_ldA, k_ldI, k_ldB, k_stA, k_stI, k_stB, ldC_some, stC_some, k_mkfn, k_slc, k_slcA, k_ixA, k_ixBs, k_ixSl, k_fadr, k_fld, k_ext, k_len, k_app, k_mn, k_mx, k_nilck, k_build, k_bsl1, k_bsl2, b_add, b_sub, b_mul, b_eql, b_neq, b_lss, b_leq, b_gtr, b_geq, Dn.setLast, Dn.getLast, evalO, mapO, Dn.get, putE, keepE_nil, keepE_cons, kp_some, kp_none, TV.one, TV.isAgg, Dn.part, k_boxR, negb, at0, at1, at2, at3, at4, dT, dF, wrapR_i64, Option.bind_some, Option.map_some]
      rfl, rfl, hR⟩
  | d + 1, k, R, m, H, hd, hm, hR, hS, hid => by
    have hx : l[k]? = some l[k] := List.getElem?_eq_getElem (by omega)
    have hdr : l.drop k = l[k] :: l.drop (k + 1) := List.drop_eq_getElem_cons (by omega)
    rw [hdr]
    generalize l[k] = x at *
    obtain ⟨a, b⟩ := x
    obtain ⟨p, p1, p2, p3⟩ := hS.ix (pg := pg) (R := den pg) hx .i64
    have p1' : dkc pg (den pg) (.ixS 2 true) [S, .i .i64 (k : Int)] H = some (p, H) := p1
    have p2' : dkc pg (den pg) (.ld 2 true) [p] H = some (.agg [.i .i64 a, .i .i64 b], H) := p2.ld
    obtain ⟨X, hX⟩ : ∃ X, X = H.length := ⟨_, rfl⟩
    obtain ⟨HX, hHX⟩ : ∃ HX : Heap, HX = H ++ [.cells [.i .i64 a, .i .i64 b] true] := ⟨_, rfl⟩
    have al : dkc pg (den pg) (.alloc [.i .i64 0, .i .i64 0] true) [] H = some (.ref X 0, H ++ [.cells [.i .i64 0, .i .i64 0] true]) := by rw [k_alloc, hX]
    have stX : dkc pg (den pg) (.st 2) [.ref X 0, .agg [.i .i64 a, .i .i64 b]] (H ++ [.cells [.i .i64 0, .i .i64 0] true]) = some (.undef, HX) := by
      rw [k_stA, hX, getLast, stC_some, if_pos ⟨rfl, rfl, by simp⟩, Dn.setLast, hHX]
      simp [put2]
    have hXc : HX[X]? = some (.cells [.i .i64 a, .i .i64 b] true) := by rw [hHX, hX]; exact getLast _ _
    have f0 : dkc pg (den pg) (.fadr 0 1 false) [.ref X 0] HX = some (.ref X 0, HX) := by rw [k_fadr]
    have f1 : dkc pg (den pg) (.fadr 1 1 false) [.ref X 0] HX = some (.ref X 1, HX) := by rw [k_fadr]
    have g0 : ldC HX[X]? 1 false 0 HX = some (.i .i64 a, HX) := by rw [hXc, ldC_some]; rfl
    have g1 : ldC HX[X]? 1 false 1 HX = some (.i .i64 b, HX) := by rw [hXc, ldC_some]; rfl
    have bld := k_bld2 (pg := pg) (R := den pg) a b HX
    have bs := k_bsl22 (pg := pg) (R := den pg) a b HX
    have hbase := hR.len
    have hRX : RowG elP base H0 HX R m := ⟨hR.own.mono fun id hid => by rw [hHX, List.getElem?_append_left (hR.own.lt id hid)], fun j hj => by rw [hHX, List.getElem?_append_left (by omega)]; exact hR.old j hj, hR.new, by rw [hHX]; simp; omega⟩
    obtain ⟨R1, H1, s1, s2⟩ := hRX.push (a, b) (bytes := 16) (by omega)
    have s1' : appRun 2 true 16 R (.sl HX.length 0 2 true 1 (some 1)) (HX ++ [.cells [.i .i64 a, .i .i64 b] false]) = some (R1, H1) := s1
    have hS1 : elP.View H1 S l := hS.mono fun id hi => by rw [s2.old id (hid id hi), ← hR.old id (hid id hi)]
    obtain ⟨e, R', H', e1, e2, e3⟩ := l46_3_all (pg := pg) hl (H0 := H0) d (k + 1) R1 (m ++ [(a, b)]) H1 (by omega) (by simp [hm]) s2 hS1 hid
    refine ⟨e, R', H', Eq.trans ?_ e1, e2, by simpa using e3⟩
    rw [l46_3, den_loop]
    simp (disch := omega) [l46_3, b46_2, go_nil, go_last, go_past, go_pastR, go_blkN, go_blkR, go_blkE, go_skip, go_exit, go_ret, go_scope, go_seq, go_reg, go_regd, go_opdN, go_opd, go_opdG, grdd_b, grdd_u, stpd_some, find_some, go_block, go_cond, cnd_b, go_opsN, go_ops, go_opsG, grd_b, grd_u, stp_some, fin_some, up_some, cont_some, k_call, k_mv, k_pick, k_bin, k_eqB, k_eqA, k_not, k_neg, k_conv, k_alloc, k_boxA, k_boxI, k_boxB, k_boxN, k_boxBs, k_ldR, k_ldA, k_ldI, k_ldB, k_stA, k_stI, k_stB, ldC_some, stC_some, k_mkfn, k_slc, k_slcA, k_ixA, k_ixBs, k_ixSl, k_fadr, k_fld, k_ext, k_len, k_app, k_mn, k_mx, k_nilck, k_build, k_bsl1, k_bsl2, b_add, b_sub, b_mul, b_eql, b_neq, b_lss, b_leq, b_gtr, b_geq, Dn.setLast, Dn.getLast, evalO, mapO, Dn.get, putE, keepE_nil, keepE_cons, kp_some, kp_none, TV.one, TV.isAgg, Dn.part, k_boxR, negb, at0, at1, at2, at3, at4, dT, dF, wrapR_i64, Option.bind_some, Option.map_some, p1', p2', al, stX, f0, f1, g0, g1, bld, bs, s1']

theorem body46 {pg : Pg} (hF : Free pg) {r c : Nat} (h : Brd r c) : ∃ R H', bodyRun pg (den pg) 46 [.i .i64 (r : Int), .i .i64 (c : Int)] [] = some (.tup [R, .i .i64 0], H') ∧ elP.Own H' R (pairsOf r c) := by
  have hn := h.n36
  have h63 := lt63 h
  have h64 := lv64 h
  obtain ⟨H1, h1, h2, h3, h4⟩ := body59n (pg := pg) hF h []
  simp only [List.length_nil] at h1 h2 h3
  have hBO1 : BOk r c H1 (.ref 0 0) := .inr ⟨0, rfl, h2⟩
  obtain ⟨H2, tr, b1, b2, b3, b4⟩ := body74 (pg := pg) hF h hBO1
  obtain ⟨P, hP⟩ : ∃ P, P = H1.length := ⟨_, rfl⟩
  rw [← hP] at b1 b2 b3 b4
  have b1' : callRun pg (den pg) .sh [.fn 74 [] [], .ref 0 0] H1 = some (.ref P 0, H2) := by rw [sh_fn]; exact b1
  obtain ⟨Q, hQ⟩ : ∃ Q, Q = H2.length := ⟨_, rfl⟩
  obtain ⟨H3, hH3⟩ : ∃ H3 : Heap, H3 = H2 ++ [.cells [.ref P 0] false] := ⟨_, rfl⟩
  have l3 : H3.length = Q + 1 := by rw [hH3, hQ]; simp
  have al3 : dkc pg (den pg) (.alloc [.nilp] false) [] H2 = some (.ref Q 0, H2 ++ [.cells [.nilp] false]) := by rw [k_alloc, hQ]
  have s3 : dkc pg (den pg) (.st 1) [.ref Q 0, .ref P 0] (H2 ++ [.cells [.nilp] false]) = some (.undef, H3) := by
    have := st_box (pg := pg) (R := den pg) (H := H2 ++ [.cells [.nilp] false]) (id := Q) (u := .nilp) (ag := false) (v := .ref P 0) (by rw [hQ]; exact getLast _ _) rfl
    rw [this, hQ, Dn.setLast, hH3]
  obtain ⟨H4, hH4⟩ : ∃ H4 : Heap, H4 = H3 ++ [.cells [.nilsl] false] := ⟨_, rfl⟩
  have l4 : H4.length = Q + 2 := by rw [hH4]; simp [l3]
  have al4 : dkc pg (den pg) (.alloc [.nilsl] false) [] H3 = some (.ref (Q + 1) 0, H4) := by rw [k_alloc, l3, hH4]
  have k4 : ∀ j, j < Q → H4[j]? = H2[j]? := fun j hj => by rw [hH4, List.getElem?_append_left (by omega), hH3, List.getElem?_append_left (by omega)]
  have e0 : H4[0]? = some (.cells (bM r c) true) := by rw [k4 0 (by omega), b4 0 (by omega)]; exact h2
  have c69 := (Bv.ref e0).call69 (pg := pg) hF (col := 0) h
  have hclt := colM_lt r c 0
  obtain ⟨H5, hH5⟩ : ∃ H5 : Heap, H5 = H4 ++ [.cells [.i .u64 (colM r c 0 : Int)] false] := ⟨_, rfl⟩
  have l5 : H5.length = Q + 3 := by rw [hH5]; simp [l4]
  have b63 := body63 (pg := pg) hF (colM r c 0) H4
  rw [← hH5, l4] at b63
  obtain ⟨L, hL⟩ : ∃ L, L = lp1 a46_0 b46_1 29 [8, 9] [(8, .ref Q 0), (9, .ref (Q + 1) 0), (28, .fn 93 [] [.ref (Q + 2) 0])] := ⟨_, rfl⟩
  have hkeep : keepE [8, 9] ([(8, .ref Q 0), (9, .ref (Q + 1) 0), (28, .fn 93 [] [.ref (Q + 2) 0])] : Env) = [(8, .ref Q 0), (9, .ref (Q + 1) 0)] := rfl
  have kl : ∀ j, j < Q + 2 → (H5 ++ [.loop L])[j]? = H4[j]? := fun j hj => by rw [List.getElem?_append_left (by omega), hH5, List.getElem?_append_left (by omega)]
  have hPQ : P < Q := by omega
  have hS0 : QP r c P (Q + 1) (Q + 3) (.ref 0 0) (matesOf r c) tr H4 (H5 ++ [.loop L]) [] := by
    refine ⟨⟨⟨.nilsl, ?_, .inl ⟨rfl, rfl⟩, fun id h => (by cases h)⟩, by simp [l5], fun j hj => kl j (by omega)⟩, ?_, ?_⟩
    · rw [kl _ (by omega), hH4, ← l3]; exact getLast _ _
    · rw [kl P (by omega), k4 P (by omega)]; exact b2
    · show (H5 ++ [.loop L])[Q]? = _
      rw [kl Q (by omega), hH4, List.getElem?_append_left (by omega), hH3, hQ]; exact getLast _ _
  have hlen64 : (pairsOf r c).length ≤ 64 := by
    unfold pairsOf pairL
    rw [List.length_map]
    exact Nat.le_trans (List.length_filter_le _ _) (mem64_le _)
  rcases rng hF (f := 28) (s := Q + 2) (p := 29) (as_ := a46_0) (bd := b46_1) (ks := [8, 9]) (e := [(8, .ref Q 0), (9, .ref (Q + 1) 0), (28, .fn 93 [] [.ref (Q + 2) 0])]) (H := H5) (x := colM r c 0) rfl (by rw [hH5, ← l4]; exact getLast _ _) (by omega)
      (P := fun l K => ∃ m, QP r c P (Q + 1) (Q + 3) (.ref 0 0) (matesOf r c) tr H4 K m ∧ (∀ t, t ∈ l → t < r * c) ∧ m ++ pairL r c (l.filter fun s => decide ((matesOf r c).getD s 0 ≠ -1)) = pairsOf r c) (Q := fun _ _ => False) (by rw [← hL]; exact ⟨[], hS0, fun t ht => mem64_in hclt ht, rfl⟩)
      (fun l K cc ⟨m, g1, g2, g3⟩ => ⟨m, g1.set (by omega) (by omega) (by omega) _, g2, g3⟩) (by rw [l5, ← hL]; exact pairs_round (A := Q + 1) h (by omega) rfl hL hkeep hlen64) with ⟨H6, r1, m, g1, _, g2⟩ | ⟨_, _, _, _, hf⟩
  · have g2' : m = pairsOf r c := by simpa [pairL] using g2
    subst g2'
    rw [l5, ← hL, hkeep] at r1
    obtain ⟨H7, hH7⟩ : ∃ H7, H7 = H6.set (Q + 3) (.loop { L with st := .exhausted }) := ⟨_, rfl⟩
    rw [← hH7] at r1
    have g7 : QP r c P (Q + 1) (Q + 3) (.ref 0 0) (matesOf r c) tr H4 H7 (pairsOf r c) := by rw [hH7]; exact g1.set (by omega) (by omega) (by omega) _
    obtain ⟨R, q1, q2, q3⟩ := g7.acc.cell
    have lR := ld_box (pg := pg) (R := den pg) q1 (own_one q2).1
    have hlen := fun K => q2.view.lenK K
    obtain ⟨e, R', H8, e1, e2, e3⟩ := l46_3_all (pg := pg) (S := R) hlen64 (H0 := H7) (pairsOf r c).length 0 .nilsl [] H7 (by omega) rfl (RowG.nil H7) q2.view (fun id hid => q2.lt id hid)
    rw [List.drop_zero, List.nil_append] at e3
    simp only [Int.natCast_zero] at e1 c69
    refine ⟨R', H8, body_ofs (x := .ret) (e := [(4, R'), (5, .i .i64 0)]) (vs := [R', .i .i64 0]) (d := d46) (by rw [hF.F]; rfl) rfl ?_ (.inl rfl) rfl, e3.own⟩
    generalize (colM r c 0 : Int) = C0 at *
    simp [d46, c46, zipE, go_nil, go_last, go_past, go_pastR, go_blkN, go_blkR, go_blkE, go_skip, go_exit, go_ret, go_scope, go_seq, go_reg, go_regd, go_opdN, go_opd, go_opdG, grdd_b, grdd_u, stpd_some, find_some, go_block, go_cond, cnd_b, go_opsN, go_ops, go_opsG, grd_b, grd_u, stp_some, fin_some, up_some, cont_some, k_call, k_mv, k_pick, k_bin, k_eqB, k_eqA, k_not, k_neg, k_conv, k_alloc, k_boxA, k_boxI, k_boxB, k_boxN, k_boxBs, k_ldR, k_ldA, k_ldI, k_ldB, k_stA, k_stI, k_stB, ldC_some, stC_some, k_mkfn, k_slc, k_slcA, k_ixA, k_ixBs, k_ixSl, k_fadr, k_fld, k_ext, k_len, k_app, k_mn, k_mx, k_nilck, k_build, k_bsl1, k_bsl2, b_add, b_sub, b_mul, b_eql, b_neq, b_lss, b_leq, b_gtr, b_geq, Dn.setLast, Dn.getLast, evalO, mapO, Dn.get, putE, keepE, TV.one, TV.isAgg, Dn.part, sh_fn, h1, b1', al3, s3, al4, c69, b63, r1, lR, hlen, go_denK (c := l46_3) rfl, e1, e2]
  · exact hf.elim

end Go.Proofs.Tryd.Dn

/-
  Knight: quiet knights and pairs on all boards.
-/

namespace Go.Proofs.Tryd.Dn
open Go.Dn

def flatP (l : List (Int × Int)) : List Int := l.flatMap fun p => [p.1, p.2]
def pairIn (n c : Nat) (p : Int × Int) : Bool := decide (0 ≤ p.1) && decide (p.1 < (n : Int)) && decide (0 ≤ p.2) && decide (p.2 < (n : Int)) && near c p.1.toNat p.2.toNat
def pairOk (r c : Nat) (l : List (Int × Int)) : Bool := l.all (pairIn (r * c) c) && decide (flatP l).Nodup

def SVP (t : TV) (l : List (Int × Int)) : Prop := t = .nilsl ∧ l = [] ∨ ∃ b, t = .bs b 2 (l.map elP.val)
theorem SVP.view {t : TV} {l : List (Int × Int)} (h : SVP t l) (H : Heap) : elP.View H t l := by
  rcases h with ⟨rfl, rfl⟩ | ⟨b, rfl⟩
  · exact .inl ⟨rfl, rfl⟩
  · exact .inr (.inl ⟨b, rfl⟩)
theorem SVP.lt (b : Bool) (l : List (Int × Int)) : SVP (elP.lt b l) l := by
  cases l with
  | nil => exact .inl ⟨rfl, rfl⟩
  | cons x l => exact .inr ⟨b, rfl⟩

theorem flatP_snoc {l : List (Int × Int)} {k : Nat} {x : Int × Int} (h : l[k]? = some x) : flatP (l.take (k + 1)) = (flatP (l.take k) ++ [x.1]) ++ [x.2] := by
  rw [take_snoc h]
  simp [flatP]

theorem flatP_take {l : List (Int × Int)} (h : (flatP l).Nodup) (k : Nat) : (flatP (l.take k)).Nodup := by
  have : flatP l = flatP (l.take k) ++ flatP (l.drop k) := by
    unfold flatP
    rw [← List.flatMap_append, List.take_append_drop]
  rw [this] at h
  exact (List.nodup_append.1 h).1

theorem l49_all {pg : Pg} (hF : Free pg) {r c : Nat} (h : Brd r c) {A M : TV} {l : List (Int × Int)} (hA : SVP A l) (h64 : l.length ≤ 1000000) (hok : pairOk r c l = true) : ∀ (d k : Nat) (o : List Bool) (H : Heap), k + d = l.length → elB.Arr H M o → o.length = r * c → (∀ t, t < r * c → (o.getD t false = true ↔ ((t : Nat) : Int) ∈ flatP (l.take k))) →
    ∃ e H', den pg l49_1 [(0, .i .i64 (r : Int)), (1, .i .i64 (c : Int)), (2, A), (7, M), (8, .i .i64 (k : Int))] H = some ⟨.exit 0, e, H'⟩
  | 0, k, o, H, hd, hM, ho, hb => by
    have hlen := fun K => (hA.view K).lenK K
    exact ⟨_, H, by
      rw [l49_1, den_loop]
      simp (disch := omega) [b49_0, go_nil, go_last, go_past, go_pastR, go_blkN, go_blkR, go_blkE, go_skip, go_exit, go_ret, go_scope, go_seq, go_reg, go_regd, go_opdN, go_opd, go_opdG, grdd_b, grdd_u, stpd_some, find_some, go_block, go_cond, cnd_b, go_opsN, go_ops, go_opsG, grd_b, grd_u, stp_some, fin_some, up_some, cont_some, k_call, k_mv, k_pick, k_bin, k_eqB, k_eqA, k_not, k_neg, k_conv, k_alloc, k_boxA, k_boxI, k_boxB, k_boxN, k_boxBs, k_ldR, k_ldA, k_ldI, k_ldB, k_stA, k_stI, k_stB, ldC_some, stC_some, k_mkfn, k_slc, k_slcA, k_ixA, k_ixBs, k_ixSl, k_fadr, k_fld, k_ext, k_len, k_app, k_mn, k_mx, k_nilck, k_build, k_bsl1, k_bsl2, b_add, b_sub, b_mul, b_eql, b_neq, b_lss, b_leq, b_gtr, b_geq, Dn.setLast, Dn.getLast, evalO, mapO, Dn.get, putE, keepE_nil, keepE_cons, kp_some, kp_none, TV.one, TV.isAgg, Dn.part, k_boxR, negb, at0, at1, at2, at3, at4, dT, dF, wrapR_i64, Option.bind_some, Option.map_some, hlen]
      rfl⟩
  | d + 1, k, o, H, hd, hM, ho, hb => by
    have hn := h.n36
    obtain ⟨hcast, wn⟩ := rc_facts h
    have hlen := fun K => (hA.view K).lenK K
    have hx : l[k]? = some l[k] := List.getElem?_eq_getElem (by omega)
    have hmem : l[k] ∈ l := List.getElem_mem (show k < l.length by omega)
    generalize l[k] = x at *
    obtain ⟨a, b⟩ := x
    unfold pairOk at hok
    rw [Bool.and_eq_true, decide_eq_true_eq] at hok
    have hin := List.all_eq_true.1 hok.1 (a, b) hmem
    unfold pairIn at hin
    simp only [Bool.and_eq_true, decide_eq_true_eq] at hin
    obtain ⟨⟨⟨⟨i1, i2⟩, i3⟩, i4⟩, i5⟩ := hin
    have hnd := flatP_take hok.2 (k + 1)
    have hok' : pairOk r c l = true := by unfold pairOk; rw [Bool.and_eq_true, decide_eq_true_eq]; exact hok
    rw [flatP_snoc hx, nodup_snoc, nodup_snoc] at hnd
    obtain ⟨⟨_, hna⟩, hnb⟩ := hnd
    have hsn := flatP_snoc hx
    simp only at hna hnb hsn i1 i2 i3 i4 i5
    obtain ⟨p, p1, p2, p3⟩ := (hA.view H).ix (pg := pg) (R := den pg) hx .i64
    have p1' : dkc pg (den pg) (.ixS 2 true) [A, .i .i64 (k : Int)] H = some (p, H) := p1
    obtain ⟨qa, qa1, qa2⟩ := p2.cell (pg := pg) (R := den pg) rfl (j := 0) (v := .i .i64 a) rfl .i64
    obtain ⟨qb, qb1, qb2⟩ := p2.cell (pg := pg) (R := den pg) rfl (j := 1) (v := .i .i64 b) rfl .i64
    have qa1' : dkc pg (den pg) (.ixA 2 1 false) [p, .i .i64 0] H = some (qa, H) := qa1
    have qb1' : dkc pg (den pg) (.ixA 2 1 false) [p, .i .i64 1] H = some (qb, H) := qb1
    obtain ⟨an, rfl⟩ : ∃ n : Nat, a = (n : Int) := ⟨a.toNat, by omega⟩
    obtain ⟨bn, rfl⟩ : ∃ n : Nat, b = (n : Int) := ⟨b.toNat, by omega⟩
    simp only [Int.toNat_natCast] at i5
    have har : an < r * c := by omega
    have hbr : bn < r * c := by omega
    have hab : an ≠ bn := by
      rintro rfl
      exact hnb (by simp)
    have oa : o.getD an false = false := by
      cases hv : o.getD an false with
      | false => rfl
      | true => exact (hna ((hb an har).1 hv)).elim
    have ob : o.getD bn false = false := by
      cases hv : o.getD bn false with
      | false => rfl
      | true => exact (hnb (List.mem_append_left _ ((hb bn hbr).1 hv))).elim
    have hoa : o[an]? = some (o.getD an false) := by rw [List.getD_eq_getElem?_getD, List.getElem?_eq_getElem (by omega)]; rfl
    have hob : o[bn]? = some (o.getD bn false) := by rw [List.getD_eq_getElem?_getD, List.getElem?_eq_getElem (by omega)]; rfl
    rw [oa] at hoa
    rw [ob] at hob
    obtain ⟨ia, ja, x0, x1, x2, x3⟩ := arrB (pg := pg) (R := den pg) hM hoa
    obtain ⟨ib, jb, y0, y1, y2, y3⟩ := arrB (pg := pg) (R := den pg) hM hob
    have c62 := call62 (pg := pg) hF h.c1 h.c8 (a := an) (b := bn) (by omega) (by omega) H
    rw [i5] at c62
    obtain ⟨H1, s1, s2, s3, s4⟩ := x3 true
    obtain ⟨ic, jc, z0, z1, z2, z3⟩ := arrB (pg := pg) (R := den pg) s2 (i := bn) (x := false) (by rw [List.getElem?_set_ne hab]; exact hob)
    obtain ⟨H2, t1, t2, t3, t4⟩ := z3 true
    obtain ⟨e, H', e1⟩ := l49_all hF h hA h64 hok' d (k + 1) _ H2 (by omega) t2 (by simpa using ho) (fun t ht => by
      rw [hsn, getD_setB (by simp; omega), getD_setB (by omega), List.mem_append, List.mem_append, List.mem_singleton, List.mem_singleton, ← hb t ht]
      by_cases h1 : t = bn
      · rw [if_pos h1]; simp [h1]
      · rw [if_neg h1]
        by_cases h2 : t = an
        · rw [if_pos h2]; simp [h2]
        · rw [if_neg h2]
          constructor
          · intro h3; exact .inl (.inl h3)
          · rintro ((h3 | h3) | h3)
            · exact h3
            · omega
            · omega)
    refine ⟨e, H', Eq.trans ?_ e1⟩
    rw [l49_1, den_loop]
    simp (disch := omega) [l49_1, b49_0, go_nil, go_last, go_past, go_pastR, go_blkN, go_blkR, go_blkE, go_skip, go_exit, go_ret, go_scope, go_seq, go_reg, go_regd, go_opdN, go_opd, go_opdG, grdd_b, grdd_u, stpd_some, find_some, go_block, go_cond, cnd_b, go_opsN, go_ops, go_opsG, grd_b, grd_u, stp_some, fin_some, up_some, cont_some, k_call, k_mv, k_pick, k_bin, k_eqB, k_eqA, k_not, k_neg, k_conv, k_alloc, k_boxA, k_boxI, k_boxB, k_boxN, k_boxBs, k_ldR, k_ldA, k_ldI, k_ldB, k_stA, k_stI, k_stB, ldC_some, stC_some, k_mkfn, k_slc, k_slcA, k_ixA, k_ixBs, k_ixSl, k_fadr, k_fld, k_ext, k_len, k_app, k_mn, k_mx, k_nilck, k_build, k_bsl1, k_bsl2, b_add, b_sub, b_mul, b_eql, b_neq, b_lss, b_leq, b_gtr, b_geq, Dn.setLast, Dn.getLast, evalO, mapO, Dn.get, putE, keepE_nil, keepE_cons, kp_some, kp_none, TV.one, TV.isAgg, Dn.part, k_boxR, negb, at0, at1, at2, at3, at4, dT, dF, wrapR_i64, Option.bind_some, Option.map_some, hlen, p1', qa1', qa2, qb1', qb2, wn, x1, x2, y1, y2, c62, s1, z1, t1]

theorem fn49 {pg : Pg} (hF : Free pg) {r c : Nat} (h : Brd r c) {A : TV} {l : List (Int × Int)} (hA : SVP A l) (h64 : l.length ≤ 1000000) (hok : pairOk r c l = true) : PFn pg 49 [.i .i64 (r : Int), .i .i64 (c : Int), A] (.b true) := by
  have hn := h.n36
  obtain ⟨hcast, wn⟩ := rc_facts h
  have hmk := k_mksl (pg := pg) (R := den pg) [.b false] false 1 .i64 .i64 (r * c) [] (by omega) (by omega)
  have harr := El.arr_mksl elB [] false (r * c)
  obtain ⟨H0, hH0⟩ : ∃ H0 : Heap, H0 = [] ++ [.cells (repl (elB.enc false) (r * c)) false] := ⟨_, rfl⟩
  obtain ⟨M, hM⟩ : ∃ M : TV, M = .sl 0 0 1 false (r * c) (some (r * c)) := ⟨_, rfl⟩
  have hmk' : dkc pg (den pg) (.mksl [.b false] false 1) [.i .i64 ((r : Int) * c), .i .i64 ((r : Int) * c)] [] = some (M, H0) := by rw [hM, hH0, ← hcast]; exact hmk
  have harr' : elB.Arr H0 M (List.replicate (r * c) false) := by rw [hM, hH0]; exact harr
  obtain ⟨e, H', k1⟩ := l49_all (pg := pg) hF h hA h64 hok l.length 0 _ H0 (by omega) harr' (by simp) (fun t ht => by simp [flatP, List.getD_eq_getElem?_getD, ht])
  simp only [Int.natCast_zero] at k1
  refine .inr ⟨hF.S _ _ (by decide), .b true, H', body_of (x := .ret) (e := [(6, .b true)]) (d := d49) (by rw [hF.F]; rfl) rfl ?_ (.inl rfl) rfl, sn_b _ _ _⟩
  simp (disch := omega) [d49, c49, zipE, go_nil, go_last, go_past, go_pastR, go_blkN, go_blkR, go_blkE, go_skip, go_exit, go_ret, go_scope, go_seq, go_reg, go_regd, go_opdN, go_opd, go_opdG, grdd_b, grdd_u, stpd_some, find_some, go_block, go_cond, cnd_b, go_opsN, go_ops, go_opsG, grd_b, grd_u, stp_some, fin_some, up_some, cont_some, k_call, k_mv, k_pick, k_bin, k_eqB, k_eqA, k_not, k_neg, k_conv, k_alloc, k_boxA, k_boxI, k_boxB, k_boxN, k_boxBs, k_ldR, k_ldA, k_ldI, k_ldB, k_stA, k_stI, k_stB, ldC_some, stC_some, k_mkfn, k_slc, k_slcA, k_ixA, k_ixBs, k_ixSl, k_fadr, k_fld, k_ext, k_len, k_app, k_mn, k_mx, k_nilck, k_build, k_bsl1, k_bsl2, b_add, b_sub, b_mul, b_eql, b_neq, b_lss, b_leq, b_gtr, b_geq, Dn.setLast, Dn.getLast, evalO, mapO, Dn.get, putE, keepE_nil, keepE_cons, kp_some, kp_none, TV.one, TV.isAgg, Dn.part, k_boxR, negb, at0, at1, at2, at3, at4, dT, dF, wrapR_i64, Option.bind_some, Option.map_some, wn, hmk', go_denK (c := l49_1) rfl, k1]

/-! all boards -/
def quietOk (r c : Nat) : Bool :=
  let q := quietS r c
  let p := pairsOf r c
  let m := pairN r c (colM r c 0) (colM r c 1)
  quietB r c q && decide (pop 64 q + m = r * c) && decide (p.length = m) && pairOk r c p && (decide (r < 3) || decide (c < 3) || decide (pop 64 q = (r * c + 1) / 2))

end Go.Proofs.Tryd.Dn

