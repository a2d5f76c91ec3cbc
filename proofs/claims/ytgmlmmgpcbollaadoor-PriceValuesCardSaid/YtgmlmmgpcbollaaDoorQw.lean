/-
  The value of a bundle: the program's.
-/
import Derived.Test.YtgmlmmgpcbollaaDoorQv
set_option linter.unusedSimpArgs false
set_option linter.unusedVariables false

namespace Go.Proofs.Tryd.Dn
open Go.Dn

theorem RowInv_ext {base : Nat} {H0 H : Heap} {R : TV} {l : List Int} (h : RowInv base H0 H R l) (x : AObj) : RowInv base H0 (H ++ [x]) R l where
  own := h.own.mono fun id hid => by rw [List.getElem?_append_left (h.own.lt id hid)]
  old j hj := by have := h.len; rw [List.getElem?_append_left (by omega)]; exact h.old j hj
  new := h.new
  len := by have := h.len; simp; omega

theorem fn78 {pg : Pg} (hF : Free pg) {T : TV} {x : Int} {l : List Int} (hT : SV T (x :: l)) (hl : l.length ≤ 1000) : PFn pg 78 [T] (.i .i64 (minL l x)) := by
  have hlen := (hT.view []).lenK
  simp only [List.length_cons] at hlen
  obtain ⟨p, hp, hv⟩ := ixI (pg := pg) (R := den pg) (hT.view []) (i := 0) (x := x) rfl
  simp only [Int.natCast_zero] at hp
  have e0 : ¬ (((l.length + 1 : Nat) : Int) < 1) := by omega
  obtain ⟨e, h1, h2⟩ := l78_all (pg := pg) (fun H => hT.view H) (by simp; omega) (H := []) l.length 1 x (by simp; omega)
  simp only [Int.natCast_one, List.drop_succ_cons, List.drop_zero] at h1 h2
  refine .of1 (x := .ret) (e := [(2, .i .i64 (minL l x))]) (H' := []) (hF.S _ _ (by decide)) (d := d78) (by rw [hF.F]; rfl) rfl ?_ (.inl rfl) rfl (by simp [sn_i, sn_b, sn_nil, sn8_i, sn8_b, sn8_nil, sn7_i, sn7_b, sn_sl, sn8_sl, slB_some, sn_tup, sn_agg, sn8_agg, mapO, elems])
  generalize ((l.length + 1 : Nat) : Int) = ll at *
  generalize minL l x = mm at *
  simp [d78, c78, zipE, go_nil, go_last, go_past, go_pastR, go_blkN, go_blkR, go_blkE, go_skip, go_exit, go_ret, go_scope, go_seq, go_reg, go_block, go_cond, cnd_b, go_opsN, go_ops, go_opsG, grd_b, grd_u, stp_some, fin_some, up_some, cont_some, k_call, k_mv, k_pick, k_bin, k_eqB, k_eqA, k_not, k_neg, k_conv, k_alloc, k_boxA, k_boxI, k_boxB, k_boxN, k_boxBs, k_ldR, k_ldA, k_ldI, k_ldB, k_stA, k_stI, k_stB, ldC_some, stC_some, k_mkfn, k_slc, k_slcA, k_ixA, k_ixBs, k_ixSl, k_fadr, k_fld, k_ext, k_len, k_app, k_mn, k_mx, k_nilck, k_build, k_bsl1, k_bsl2, b_add, b_sub, b_mul, b_eql, b_neq, b_lss, b_leq, b_gtr, b_geq, Dn.setLast, Dn.getLast, evalO, mapO, Dn.get, putE, keepE, TV.one, TV.isAgg, Dn.part, hlen, e0, hp, hv, go_denK (c := l78_1) rfl, h1, h2]
  omega

/-- a bundle of so many goods -/
structure Bnd (g : Nat) (b : List Int) : Prop where
  len : b.length = g
  r : ∀ x ∈ b, 0 ≤ x ∧ x ≤ 20

def valI (X : List Obs) (us ls b : List Int) (i : Nat) : Int := us.getD i 0 + ls.getD i 0 * (dot (X.getD i ([], [])).1 b - costOf X i i)
def vals (X : List Obs) (us ls b : List Int) : List Int := (List.range X.length).map (valI X us ls b)

theorem prices_ok {X : List Obs} {g : Nat} (hm : Market X g) {i : Nat} (hi : i < X.length) : (X.getD i ([], [])).1.length = g ∧ (X.getD i ([], [])).2.length = g ∧ (∀ p ∈ (X.getD i ([], [])).1, 1 ≤ p ∧ p ≤ 20) ∧ ∀ p ∈ (X.getD i ([], [])).2, 0 ≤ p ∧ p ≤ 20 := by
  have h := getD_obs hi
  obtain ⟨a1, a2, a3, a4, _⟩ := okObs_iff.1 (hm.ok _ (List.mem_of_getElem? h))
  exact ⟨a1, a2, a3, a4⟩

theorem dot_b {X : List Obs} {g : Nat} (hm : Market X g) {b : List Int} (hb : Bnd g b) {i : Nat} (hi : i < X.length) : 0 ≤ dot (X.getD i ([], [])).1 b ∧ dot (X.getD i ([], [])).1 b ≤ 1200 := by
  obtain ⟨a1, _, a3, _⟩ := prices_ok hm hi
  have := dot_le a1 hb.len a3 hb.r
  have := hm.g3
  omega

theorem val_fit {X : List Obs} {g : Nat} (hm : Market X g) {us ls b : List Int} (har : arR X us ls) (hb : Bnd g b) {i : Nat} (hi : i < X.length) :
    wrapR .i64 (dot (X.getD i ([], [])).1 b - costOf X i i) = .i .i64 (dot (X.getD i ([], [])).1 b - costOf X i i) ∧
    wrapR .i64 (ls.getD i 0 * (dot (X.getD i ([], [])).1 b - costOf X i i)) = .i .i64 (ls.getD i 0 * (dot (X.getD i ([], [])).1 b - costOf X i i)) ∧
    wrapR .i64 (us.getD i 0 + ls.getD i 0 * (dot (X.getD i ([], [])).1 b - costOf X i i)) = .i .i64 (valI X us ls b i) := by
  have g1 := getD_get (l := us) (i := i) (by rw [har.lu]; exact hi)
  have g2 := getD_get (l := ls) (i := i) (by rw [har.ll]; exact hi)
  have r1 := har.ru _ (List.mem_of_getElem? g1)
  have r2 := har.rl _ (List.mem_of_getElem? g2)
  have hd := dot_b hm hb hi
  have hc := hm.cost hi hi
  unfold valI
  have hd1 : -1200 ≤ dot (X.getD i ([], [])).1 b - costOf X i i ∧ dot (X.getD i ([], [])).1 b - costOf X i i ≤ 1200 := by omega
  generalize dot (X.getD i ([], [])).1 b - costOf X i i = d at *
  generalize ls.getD i 0 = li at *
  generalize us.getD i 0 = ui at *
  have p1 : li * (-1200) ≤ li * d := Int.mul_le_mul_of_nonneg_left hd1.1 (by omega)
  have p2 : li * d ≤ li * 1200 := Int.mul_le_mul_of_nonneg_left hd1.2 (by omega)
  exact ⟨wrapR_i64 (by omega), wrapR_i64 (by omega), wrapR_i64 (by omega)⟩

theorem l45_all {pg : Pg} (hF : Free pg) {X : List Obs} {g : Nat} (hm : Market X g) {us ls b : List Int} (har : arR X us ls) (hb : Bnd g b) {U L B : TV} (hU : SV U us) (hL : SV L ls) (hB : SV B b) {base M : Nat} (hMb : M < base) {H0 : Heap} (hM0 : H0[M]? = some (.cells (mX X) true)) : ∀ (d i : Nat) (R : TV) (m : List Int) (H : Heap), i + d = X.length → RowInv base H0 H R m → m.length = i →
    ∃ e R' H', den pg l45_1 [(1, U), (2, L), (3, B), (10, .ref M 0), (12, R), (43, (elS true).lt true X), (44, .i .i64 (X.length : Int)), (45, .i .i64 (i : Int))] H = some ⟨.exit 0, e, H'⟩ ∧ Dn.get e 12 = some R' ∧ RowInv base H0 H' R' (m ++ ((List.range X.length).drop i).map (valI X us ls b))
  | 0, i, R, m, H, h, hr, hml => by
    have e1 : ¬ ((i : Int) < (X.length : Int)) := by omega
    refine ⟨[(1, U), (2, L), (3, B), (10, .ref M 0), (12, R), (43, (elS true).lt true X), (44, .i .i64 (X.length : Int)), (45, .i .i64 (i : Int)), (46, .b false)], R, H, ?_, rfl, ?_⟩
    · rw [l45_1, den_loop]
      simp [b45_0, go_nil, go_last, go_past, go_pastR, go_blkN, go_blkR, go_blkE, go_skip, go_exit, go_ret, go_scope, go_seq, go_reg, go_block, go_cond, cnd_b, go_opsN, go_ops, go_opsG, grd_b, grd_u, stp_some, fin_some, up_some, cont_some, k_call, k_mv, k_pick, k_bin, k_eqB, k_eqA, k_not, k_neg, k_conv, k_alloc, k_boxA, k_boxI, k_boxB, k_boxN, k_boxBs, k_ldR, k_ldA, k_ldI, k_ldB, k_stA, k_stI, k_stB, ldC_some, stC_some, k_mkfn, k_slc, k_slcA, k_ixA, k_ixBs, k_ixSl, k_fadr, k_fld, k_ext, k_len, k_app, k_mn, k_mx, k_nilck, k_build, k_bsl1, k_bsl2, b_add, b_sub, b_mul, b_eql, b_neq, b_lss, b_leq, b_gtr, b_geq, Dn.setLast, Dn.getLast, evalO, mapO, Dn.get, putE, keepE, TV.one, TV.isAgg, Dn.part, e1]
    · rw [List.drop_eq_nil_of_le (by simp; omega)]; simpa using hr
  | d + 1, i, R, m, H, h, hr, hml => by
    have hn5 := hm.n5
    have hg3 := hm.g3
    have hi : i < X.length := by omega
    have hi5 : i < 5 := by omega
    have e1 : ((i : Int) < (X.length : Int)) := by omega
    have e2 : wrapR .i64 ((i : Int) + 1) = .i .i64 ((i : Int) + 1) := wrapR_i64 (by omega)
    obtain ⟨a1, a2, a3, a4⟩ := prices_ok hm hi
    obtain ⟨p, hp, hat, _⟩ := (El.lt_view (E := elS true) true X H).ix (pg := pg) (R := den pg) (getD_obs hi) .i64
    have hp' : dkc pg (den pg) (.ixS 2 true) [(elS true).lt true X, .i .i64 (i : Int)] H = some (p, H) := hp
    have hld : dkc pg (den pg) (.ld 2 true) [p] H = some (.agg [elI.lt true (X.getD i ([], [])).1, elI.lt true (X.getD i ([], [])).2], H) := hat.ld (pg := pg) (R := den pg)
    have hs1 : SV (elI.lt true (X.getD i ([], [])).1) (X.getD i ([], [])).1 := .lt true _
    have hs2 : SV (elI.lt true (X.getD i ([], [])).2) (X.getD i ([], [])).2 := .lt true _
    obtain ⟨st, ld0, _⟩ := boxS (pg := pg) (R := den pg) H hs1.one hs2.one hs1.noagg hs2.noagg
    obtain ⟨HA, hA⟩ : ∃ HA, HA = H ++ [.cells [elI.lt true (X.getD i ([], [])).1, elI.lt true (X.getD i ([], [])).2] true] := ⟨_, rfl⟩
    rw [← hA] at st ld0
    have hrA : RowInv base H0 HA R m := by rw [hA]; exact RowInv_ext hr _
    have hMA : HA[M]? = some (.cells (mX X) true) := by rw [hrA.old M hMb]; exact hM0
    have lm := ld_mC (pg := pg) (R := den pg) hMA hi5 hi5
    rw [costF_in hi hi] at lm
    have g1 := getD_get (l := us) (i := i) (by rw [har.lu]; exact hi)
    have g2 := getD_get (l := ls) (i := i) (by rw [har.ll]; exact hi)
    obtain ⟨q1, hq1, hv1⟩ := ixI (pg := pg) (R := den pg) (hU.view HA) g1
    obtain ⟨q2, hq2, hv2⟩ := ixI (pg := pg) (R := den pg) (hL.view HA) g2
    have c77 := call77 hF hs1 hB (by rw [a1, hb.len]; exact Nat.le_refl _) (by omega) (fun x hx => by have := a3 x hx; omega) (fun x hx => by have := hb.r x hx; omega) HA
    obtain ⟨f1, f2, f3⟩ := val_fit hm har hb hi
    obtain ⟨R', H', h1, h2⟩ := hrA.push (valI X us ls b i) (by omega)
    obtain ⟨e, R2, H2, h3, h4, h5⟩ := l45_all hF hm har hb hU hL hB hMb hM0 d (i + 1) R' _ H' (by omega) h2 (by simp; omega)
    refine ⟨e, R2, H2, Eq.trans ?_ h3, h4, ?_⟩
    · generalize elI.lt true (X.getD i ([], [])).1 = w1 at *
      generalize elI.lt true (X.getD i ([], [])).2 = w2 at *
      generalize valI X us ls b i = vv at *
      generalize dot (X.getD i ([], [])).1 b = dd at *
      generalize costOf X i i = cc at *
      generalize us.getD i 0 = ui at *
      generalize ls.getD i 0 = li at *
      rw [l45_1, den_loop]
      simp [l45_1, b45_0, go_nil, go_last, go_past, go_pastR, go_blkN, go_blkR, go_blkE, go_skip, go_exit, go_ret, go_scope, go_seq, go_reg, go_block, go_cond, cnd_b, go_opsN, go_ops, go_opsG, grd_b, grd_u, stp_some, fin_some, up_some, cont_some, k_call, k_mv, k_pick, k_bin, k_eqB, k_eqA, k_not, k_neg, k_conv, k_alloc, k_boxA, k_boxI, k_boxB, k_boxN, k_boxBs, k_ldR, k_ldA, k_ldI, k_ldB, k_stA, k_stI, k_stB, ldC_some, stC_some, k_mkfn, k_slc, k_slcA, k_ixA, k_ixBs, k_ixSl, k_fadr, k_fld, k_ext, k_len, k_app, k_mn, k_mx, k_nilck, k_build, k_bsl1, k_bsl2, b_add, b_sub, b_mul, b_eql, b_neq, b_lss, b_leq, b_gtr, b_geq, Dn.setLast, Dn.getLast, evalO, mapO, Dn.get, putE, keepE, TV.one, TV.isAgg, Dn.part, e1, e2, hp', hld, st, ld0, hi5, lm, hq1, hv1, hq2, hv2, c77, f1, f2, f3, h1]
    · rw [range_drop hi, List.map_cons]
      simpa [List.append_assoc] using h5

/-- the least of some values -/
def least (l : List Int) : Int := minL l.tail (l.headD 0)

theorem fn45 {pg : Pg} (hF : Free pg) {X : List Obs} {g : Nat} (hm : Market X g) {us ls b : List Int} (har : arN X us ls) (hb : Bnd g b) {U' L' B' : TV} (s2 : SV U' us) (t2 : SV L' ls) (b2 : SV B' b) :
    PFn pg 45 [(elS true).lt true X, U', L', B'] (.tup [.i .i64 (least (vals X us ls b)), .i .i64 0]) := by
  have hn5 := hm.n5
  have hn1 := hm.n1
  have hg3 := hm.g3
  obtain ⟨H1, h1, h2, h3, h4⟩ := body53 hF hm (P := .nilsl) (P' := .nilsl) (ps := []) (elS_RV true true X) (.inl ⟨rfl, rfl⟩) (by simp) (by simp) (H := []) (sn_nil _ _)
  simp only [List.length_nil] at h1 h2 h3
  obtain ⟨r, c75, hr⟩ := call75 hF hm (us := us) (ls := ls) (by rw [har.lu]; omega) (by rw [har.ll]; omega)
  have hrt := hr.2 har
  subst hrt
  have c75' := c75 H1 0 U' L' h2 s2 t2
  have harR : arR X us ls := ⟨har.lu, har.ll, har.ru, har.rl⟩
  obtain ⟨a1, a2, _, _⟩ := prices_ok hm (i := 0) (by omega)
  obtain ⟨bo, a, c, hix, ha, hc⟩ := (elS_RV true true X).ix (pg := pg) (R := den pg) (getD_obs (i := 0) (by omega)) H1
  simp only [Int.natCast_zero] at hix
  obtain ⟨_, f2⟩ := k_fadrP (pg := pg) (R := den pg) bo a c ha.noagg hc.noagg H1
  have d2 := k_ldV (pg := pg) (R := den pg) bo c hc.one H1
  have lc := (hc.view H1).lenK H1
  rw [a2] at lc
  have lb := (b2.view H1).lenK H1
  rw [hb.len] at lb
  have hany : b.any (outside 0 20) = false := by
    rw [List.any_eq_false]
    intro x hx
    have := hb.r x hx
    simp [outside]; omega
  have c76 := call76 hF b2 (by rw [hb.len]; omega) 0 20 H1
  rw [hany] at c76
  have hlen := El.lt_len (E := elS true) true X
  obtain ⟨e, R, H2, k1, k2, k3⟩ := l45_all hF hm harR hb s2 t2 b2 h3 h2 X.length 0 .nilsl [] H1 (by omega) (RowInv.nil H1) rfl
  rw [List.nil_append, List.drop_zero, show (List.range X.length).map (valI X us ls b) = vals X us ls b from rfl] at k3
  simp only [Int.natCast_zero] at k1
  obtain ⟨x, l, hxl⟩ : ∃ x l, vals X us ls b = x :: l := by
    cases hv : vals X us ls b with
    | nil =>
      have := congrArg List.length hv
      rw [show (vals X us ls b).length = X.length by simp [vals], List.length_nil] at this
      omega
    | cons x l => exact ⟨x, l, rfl⟩
  have hll : l.length ≤ 1000 := by
    have := congrArg List.length hxl
    rw [show (vals X us ls b).length = X.length by simp [vals], List.length_cons] at this
    omega
  rw [hxl] at k3
  have c78 := PFn.call (fn78 hF (SV.lt true (x :: l)) hll) (args := [R]) (ks := []) (fs := []) (cs := []) (H := H2) (by simp [snapArgs, k3.own.snap elI_flat])
  have hle : least (vals X us ls b) = minL l x := by rw [hxl]; rfl
  rw [hle]
  refine .of2 (xs := [(elS true).lt true X, U', L', B']) (x := .ret) (e := [(8, .i .i64 (minL l x)), (9, .i .i64 0)]) (H' := H2) (vs := [.i .i64 (minL l x), .i .i64 0]) (hF.S _ _ (by decide)) (d := d45) (by rw [hF.F]; rfl) rfl ?_ (.inl rfl) rfl (by simp) (by simp [sn_i, sn_b, sn_nil, sn8_i, sn8_b, sn8_nil, sn7_i, sn7_b, sn_sl, sn8_sl, slB_some, sn_tup, sn_agg, sn8_agg, mapO, elems])
  generalize minL l x = mm at *
  simp [d45, c45, zipE, go_nil, go_last, go_past, go_pastR, go_blkN, go_blkR, go_blkE, go_skip, go_exit, go_ret, go_scope, go_seq, go_reg, go_block, go_cond, cnd_b, go_opsN, go_ops, go_opsG, grd_b, grd_u, stp_some, fin_some, up_some, cont_some, k_call, k_mv, k_pick, k_bin, k_eqB, k_eqA, k_not, k_neg, k_conv, k_alloc, k_boxA, k_boxI, k_boxB, k_boxN, k_boxBs, k_ldR, k_ldA, k_ldI, k_ldB, k_stA, k_stI, k_stB, ldC_some, stC_some, k_mkfn, k_slc, k_slcA, k_ixA, k_ixBs, k_ixSl, k_fadr, k_fld, k_ext, k_len, k_app, k_mn, k_mx, k_nilck, k_build, k_bsl1, k_bsl2, b_add, b_sub, b_mul, b_eql, b_neq, b_lss, b_leq, b_gtr, b_geq, Dn.setLast, Dn.getLast, evalO, mapO, Dn.get, putE, keepE, TV.one, TV.isAgg, Dn.part, sh_fn, h1, c75', lb, hix, f2, d2, lc, c76, hlen, go_denK (c := l45_1) rfl, k1, k2, c78]

/-- and where it is none -/
theorem fn45bad {pg : Pg} (hF : Free pg) {X : List Obs} {g : Nat} (hm : Market X g) {us ls b : List Int} (hul : us.length ≤ 1000) (hll : ls.length ≤ 1000) (hbl : b.length ≤ 1000) (hbad : ¬ (arN X us ls ∧ Bnd g b)) {U' L' B' : TV} (s2 : SV U' us) (t2 : SV L' ls) (b2 : SV B' b) :
    PFn pg 45 [(elS true).lt true X, U', L', B'] (.tup [.i .i64 0, .i .i64 1]) := by
  have hn1 := hm.n1
  have hg3 := hm.g3
  obtain ⟨H1, h1, h2, h3, h4⟩ := body53 hF hm (P := .nilsl) (P' := .nilsl) (ps := []) (elS_RV true true X) (.inl ⟨rfl, rfl⟩) (by simp) (by simp) (H := []) (sn_nil _ _)
  simp only [List.length_nil] at h1 h2 h3
  obtain ⟨r, c75, hr⟩ := call75 hF hm (us := us) (ls := ls) hul hll
  have c75' := c75 H1 0 U' L' h2 s2 t2
  obtain ⟨a1, a2, _, _⟩ := prices_ok hm (i := 0) (by omega)
  obtain ⟨bo, a, c, hix, ha, hc⟩ := (elS_RV true true X).ix (pg := pg) (R := den pg) (getD_obs (i := 0) (by omega)) H1
  simp only [Int.natCast_zero] at hix
  obtain ⟨_, f2⟩ := k_fadrP (pg := pg) (R := den pg) bo a c ha.noagg hc.noagg H1
  have d2 := k_ldV (pg := pg) (R := den pg) bo c hc.one H1
  have lc := (hc.view H1).lenK H1
  rw [a2] at lc
  have lb := (b2.view H1).lenK H1
  have c76 := call76 hF b2 (by omega) 0 20 H1
  refine .of2 (xs := [(elS true).lt true X, U', L', B']) (x := .ret) (e := [(8, .i .i64 0), (9, .i .i64 1)]) (H' := H1) (vs := [.i .i64 0, .i .i64 1]) (hF.S _ _ (by decide)) (d := d45) (by rw [hF.F]; rfl) rfl ?_ (.inl rfl) rfl (by simp) (by simp [sn_i, sn_b, sn_nil, sn8_i, sn8_b, sn8_nil, sn7_i, sn7_b, sn_sl, sn8_sl, slB_some, sn_tup, sn_agg, sn8_agg, mapO, elems])
  cases r with
  | false => simp [d45, c45, zipE, go_nil, go_last, go_past, go_pastR, go_blkN, go_blkR, go_blkE, go_skip, go_exit, go_ret, go_scope, go_seq, go_reg, go_block, go_cond, cnd_b, go_opsN, go_ops, go_opsG, grd_b, grd_u, stp_some, fin_some, up_some, cont_some, k_call, k_mv, k_pick, k_bin, k_eqB, k_eqA, k_not, k_neg, k_conv, k_alloc, k_boxA, k_boxI, k_boxB, k_boxN, k_boxBs, k_ldR, k_ldA, k_ldI, k_ldB, k_stA, k_stI, k_stB, ldC_some, stC_some, k_mkfn, k_slc, k_slcA, k_ixA, k_ixBs, k_ixSl, k_fadr, k_fld, k_ext, k_len, k_app, k_mn, k_mx, k_nilck, k_build, k_bsl1, k_bsl2, b_add, b_sub, b_mul, b_eql, b_neq, b_lss, b_leq, b_gtr, b_geq, Dn.setLast, Dn.getLast, evalO, mapO, Dn.get, putE, keepE, TV.one, TV.isAgg, Dn.part, sh_fn, h1, c75']
  | true =>
    have har := hr.1 rfl
    by_cases hlb : b.length = g
    · have hne : ((b.length : Int) != (g : Int)) = false := by simp [hlb]
      have hany : b.any (outside 0 20) = true := by
        cases hh : b.any (outside 0 20) with
        | true => rfl
        | false =>
          exfalso
          rw [List.any_eq_false] at hh
          exact hbad ⟨har, hlb, fun x hx => by have := hh x hx; simp [outside] at this; omega⟩
      rw [hany] at c76
      simp [d45, c45, zipE, go_nil, go_last, go_past, go_pastR, go_blkN, go_blkR, go_blkE, go_skip, go_exit, go_ret, go_scope, go_seq, go_reg, go_block, go_cond, cnd_b, go_opsN, go_ops, go_opsG, grd_b, grd_u, stp_some, fin_some, up_some, cont_some, k_call, k_mv, k_pick, k_bin, k_eqB, k_eqA, k_not, k_neg, k_conv, k_alloc, k_boxA, k_boxI, k_boxB, k_boxN, k_boxBs, k_ldR, k_ldA, k_ldI, k_ldB, k_stA, k_stI, k_stB, ldC_some, stC_some, k_mkfn, k_slc, k_slcA, k_ixA, k_ixBs, k_ixSl, k_fadr, k_fld, k_ext, k_len, k_app, k_mn, k_mx, k_nilck, k_build, k_bsl1, k_bsl2, b_add, b_sub, b_mul, b_eql, b_neq, b_lss, b_leq, b_gtr, b_geq, Dn.setLast, Dn.getLast, evalO, mapO, Dn.get, putE, keepE, TV.one, TV.isAgg, Dn.part, sh_fn, h1, c75', lb, hix, f2, d2, lc, hne, c76]
    · have hne : ((b.length : Int) != (g : Int)) = true := by simp; omega
      simp [d45, c45, zipE, go_nil, go_last, go_past, go_pastR, go_blkN, go_blkR, go_blkE, go_skip, go_exit, go_ret, go_scope, go_seq, go_reg, go_block, go_cond, cnd_b, go_opsN, go_ops, go_opsG, grd_b, grd_u, stp_some, fin_some, up_some, cont_some, k_call, k_mv, k_pick, k_bin, k_eqB, k_eqA, k_not, k_neg, k_conv, k_alloc, k_boxA, k_boxI, k_boxB, k_boxN, k_boxBs, k_ldR, k_ldA, k_ldI, k_ldB, k_stA, k_stI, k_stB, ldC_some, stC_some, k_mkfn, k_slc, k_slcA, k_ixA, k_ixBs, k_ixSl, k_fadr, k_fld, k_ext, k_len, k_app, k_mn, k_mx, k_nilck, k_build, k_bsl1, k_bsl2, b_add, b_sub, b_mul, b_eql, b_neq, b_lss, b_leq, b_gtr, b_geq, Dn.setLast, Dn.getLast, evalO, mapO, Dn.get, putE, keepE, TV.one, TV.isAgg, Dn.part, sh_fn, h1, c75', lb, hix, f2, d2, lc, hne]

end Go.Proofs.Tryd.Dn

/-
  PriceAfriat: the whole run answers true.
-/

namespace Go.Proofs.Tryd.Dn
open Go.Dn

theorem cost_dot {X : List Obs} {i k : Nat} (hi : i < X.length) (hk : k < X.length) : dot (X.getD i ([], [])).1 (X.getD k ([], [])).2 = costOf X i k := by
  unfold costOf
  rw [getD_obs hi, getD_obs hk]; rfl

/-- amounts of some goods -/
def amt (ls : List Int) (df : Int) (i : Nat) : Int := if i < ls.length then rem21 (ls.getD i 0) else df
def amts (ls : List Int) (df : Int) (g : Nat) : List Int := (List.range g).map (amt ls df)

end Go.Proofs.Tryd.Dn

