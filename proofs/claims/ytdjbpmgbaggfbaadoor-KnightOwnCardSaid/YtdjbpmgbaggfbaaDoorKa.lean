/-
  Knight: counts, least members, the members of a set one by one.
-/
import Derived.Test.YtdjbpmgbaggfbaaDoorKniDT
import Derived.Test.YtdjbpmgbaggfbaaDoorDd
set_option linter.unusedSimpArgs false
set_option linter.unusedVariables false

namespace Go.Proofs.Tryd.Dn
open Go.Dn

structure Free (pg : Pg) : Prop where
  F : pg.F = tab.look
  G : pg.G 0 = some (.agg (deB.map fun n => .i .u8 n))
  S : ∀ f xs, f ≠ 25 → pg.S f xs = none

theorem body_ofs {pg : Pg} {f : Nat} {xs : List TV} {d : DFun} {x : Ex} {e : Env} {H H' : Heap} {vs : List TV} (hd : pg.F f = some d) (hl : xs.length = d.np)
    (ho : go pg (den pg) [.c d.body] .normal (zipE xs 0) H = some ⟨x, e, H'⟩) (hx : x = .ret ∨ x = .normal) (hv : mapO (resRun e H') d.res = some vs) : bodyRun pg (den pg) f xs H = some (tupR vs, H') := by
  refine bodyRun_of (o := ⟨x, e, H'⟩) hd hl (by rw [runC_go]; exact ho) ?_ hv
  intro id
  rcases hx with rfl | rfl <;> simp

theorem add_u {m c : Nat} (h : m + c < 18446744073709551616) : wrapR .u64 ((m : Int) + (c : Int)) = .i .u64 ((m + c : Nat) : Int) := by
  have := wrap_u h
  rwa [Int.natCast_add] at this

theorem fn70 {pg : Pg} (hF : Free pg) {x : Nat} (hx : x < 18446744073709551616) : PFn pg 70 [.i .u64 (x : Int)] (.i .i64 (pop 64 x : Int)) := by
  rw [← ones64_pop x]
  unfold ones64
  have s1 := Dn.shr_u (k := .u64) (m := x) (c := 1) (by omega)
  simp only [show x / 2 ^ 1 = x / 2 by omega] at s1
  have a1 := and_uu (m := x / 2) (k := 6148914691236517205) (by omega) (by omega)
  have a1' := and_uu (m := x) (k := 6148914691236517205) (by omega) (by omega)
  have l1 : (x / 2 &&& 6148914691236517205) ≤ 6148914691236517205 := Nat.and_le_right
  have l1' : (x &&& 6148914691236517205) ≤ 6148914691236517205 := Nat.and_le_right
  generalize (x / 2 &&& 6148914691236517205) = u1 at a1 l1 ⊢
  generalize (x &&& 6148914691236517205) = v1 at a1' l1' ⊢
  have p1 := add_u (m := u1) (c := v1) (by omega)
  simp only
  have lt1 : u1 + v1 < 18446744073709551616 := by omega
  generalize hy1 : u1 + v1 = y1 at p1 lt1 ⊢
  have s2 := Dn.shr_u (k := .u64) (m := y1) (c := 2) (by omega)
  simp only [show y1 / 2 ^ 2 = y1 / 4 by omega] at s2
  have a2 := and_uu (m := y1 / 4) (k := 3689348814741910323) (by omega) (by omega)
  have a2' := and_uu (m := y1) (k := 3689348814741910323) (by omega) (by omega)
  have l2 : (y1 / 4 &&& 3689348814741910323) ≤ 3689348814741910323 := Nat.and_le_right
  have l2' : (y1 &&& 3689348814741910323) ≤ 3689348814741910323 := Nat.and_le_right
  generalize (y1 / 4 &&& 3689348814741910323) = u2 at a2 l2 ⊢
  generalize (y1 &&& 3689348814741910323) = v2 at a2' l2' ⊢
  have p2 := add_u (m := u2) (c := v2) (by omega)
  have lt2 : u2 + v2 ≤ 7378697629483820646 := by omega
  generalize hy2 : u2 + v2 = y2 at p2 lt2 ⊢
  have s3 := Dn.shr_u (k := .u64) (m := y2) (c := 4) (by omega)
  simp only [show y2 / 2 ^ 4 = y2 / 16 by omega] at s3
  have p3 := add_u (m := y2 / 16) (c := y2) (by omega)
  have a3 := and_uu (m := y2 / 16 + y2) (k := 1085102592571150095) (by omega) (by omega)
  have l3 : ((y2 / 16 + y2) &&& 1085102592571150095) ≤ 1085102592571150095 := Nat.and_le_right
  generalize ((y2 / 16 + y2) &&& 1085102592571150095) = y3 at a3 l3 ⊢
  have s4 := Dn.shr_u (k := .u64) (m := y3) (c := 8) (by omega)
  simp only [show y3 / 2 ^ 8 = y3 / 256 by omega] at s4
  have p4 := add_u (m := y3) (c := y3 / 256) (by omega)
  have lt4 : y3 + y3 / 256 ≤ 2000000000000000000 := by omega
  generalize hy4 : y3 + y3 / 256 = y4 at p4 lt4 ⊢
  have s5 := Dn.shr_u (k := .u64) (m := y4) (c := 16) (by omega)
  simp only [show y4 / 2 ^ 16 = y4 / 65536 by omega] at s5
  have p5 := add_u (m := y4) (c := y4 / 65536) (by omega)
  have lt5 : y4 + y4 / 65536 ≤ 3000000000000000000 := by omega
  generalize hy5 : y4 + y4 / 65536 = y5 at p5 lt5 ⊢
  have s6 := Dn.shr_u (k := .u64) (m := y5) (c := 32) (by omega)
  simp only [show y5 / 2 ^ 32 = y5 / 4294967296 by omega] at s6
  have p6 := add_u (m := y5) (c := y5 / 4294967296) (by omega)
  have lt6 : y5 + y5 / 4294967296 ≤ 4000000000000000000 := by omega
  generalize hy6 : y5 + y5 / 4294967296 = y6 at p6 lt6 ⊢
  have c6 : wrapR .i64 (y6 : Int) = .i .i64 (y6 : Int) := wrapR_i64 (by omega)
  have a7 := and_ii (m := y6) (k := 127) (by omega) (by omega)
  simp only [Int.cast_ofNat_Int] at s1 a1 a1' s2 a2 a2' s3 a3 s4 s5 s6 a7
  refine .of1 (x := .ret) (e := [(2, .i .i64 ((y6 &&& 127 : Nat) : Int))]) (H' := []) (hF.S _ _ (by decide)) (d := d70) (by rw [hF.F]; rfl) rfl ?_ (.inl rfl) rfl (by simp [sn_i, sn_b, sn_nil, sn8_i, sn8_b, sn8_nil, sn7_i, sn7_b, sn_sl, sn8_sl, slB_some, sn_tup, sn_agg, sn8_agg, mapO, elems])
  simp only [d70, c70, zipE]
  simp only [go_nil, go_pastR, go_seq, go_reg, go_opsN, go_ops, go_ret, stp_some, fin_some, up_some, k_mv, k_bin, k_conv, b_add, evalO, mapO, Dn.get, putE, keepE, Option.bind_some, Option.map_some, ↓reduceIte, Nat.reduceEqDiff, List.filterMap_cons, List.filterMap_nil, s1, a1, a1', p1, s2, a2, a2', p2, s3, p3, a3, s4, p4, s5, p5, s6, p6, c6, a7]

theorem call70 {pg : Pg} (hF : Free pg) {x : Nat} (hx : x < 18446744073709551616) (H : Heap) : callRun pg (den pg) (.pu []) [.fn 70 [] [], .i .u64 (x : Int)] H = some (.i .i64 (pop 64 x : Int), H) :=
  PFn.call (fn70 hF hx) (args := [.i .u64 (x : Int)]) (by simp [snapArgs, sn_i])

theorem neg_u {x : Nat} (h0 : 0 < x) (hx : x < 18446744073709551616) : wrapR .u64 (-(x : Int)) = .i .u64 ((18446744073709551616 - x : Nat) : Int) := by
  have : IntKind.wrap .u64 (-(x : Int)) = ((18446744073709551616 - x : Nat) : Int) := by
    simp only [IntKind.wrap, IntKind.signed, IntKind.bits, Bool.false_and, Bool.false_eq_true, if_false]
    omega
  unfold wrapR
  rw [this]

theorem mul_u (p c : Nat) : wrapR .u64 ((p : Int) * (c : Int)) = .i .u64 ((p * c % 18446744073709551616 : Nat) : Int) := by
  have : IntKind.wrap .u64 ((p : Int) * (c : Int)) = ((p * c % 18446744073709551616 : Nat) : Int) := by
    simp only [IntKind.wrap, IntKind.signed, IntKind.bits, Bool.false_and, Bool.false_eq_true, if_false]
    rw [← Int.natCast_mul]
    omega
  unfold wrapR
  rw [this]

theorem deB_ix {pg : Pg} {R : Rec} {i k : Nat} (hd : deB[i]? = some (k : Int)) (hi : i < 64) (H : Heap) : dkc pg R (.ixA 64 1 false) [.bp false (.agg (deB.map fun n => .i .u8 n)), .i .u64 (i : Int)] H = some (.bp false (.i .u8 (k : Int)), H) := by
  have hm : (deB.map fun n => TV.i .u8 n)[i]? = some (.i .u8 (k : Int)) := by rw [List.getElem?_map, hd]; rfl
  generalize (deB.map fun n => TV.i .u8 n) = tb at *
  simp [dkc, dk, bound, hi, Dn.part, hm, TV.isAgg]

theorem deB_word {x : Nat} (h0 : 0 < x) (hx : x < 18446744073709551616) : ∃ p q i : Nat, binI .and (.i .u64 (x : Int)) (.i .u64 ((18446744073709551616 - x : Nat) : Int)) = some (.i .u64 (p : Int)) ∧
    wrapR .u64 ((p : Int) * 285870213051353865) = .i .u64 (q : Int) ∧ binI .shr (.i .u64 (q : Int)) (.i .u64 58) = some (.i .u64 (i : Int)) ∧ i < 64 ∧ deB[i]? = some (ctz 64 x : Int) := by
  obtain ⟨h1, h2⟩ := low_and h0 hx
  have ea := and_uu (m := x) (k := 18446744073709551616 - x) hx (by omega)
  rw [h1] at ea
  have hl : 2 ^ ctz 64 x * 285870213051353865 % 18446744073709551616 < 18446744073709551616 := Nat.mod_lt _ (by omega)
  exact ⟨_, _, _, ea, mul_u _ 285870213051353865, Dn.shr_u (k := .u64) (c := 58) (by omega), by omega, deB_at h2⟩

theorem fn84 {pg : Pg} (hF : Free pg) {x : Nat} (h0 : 0 < x) (hx : x < 18446744073709551616) : PFn pg 84 [.i .u64 (x : Int)] (.i .i64 (ctz 64 x : Int)) := by
  have e0 : ¬ x = 0 := by omega
  have en := neg_u h0 hx
  obtain ⟨p, q, i, ea, em, es, hi, hd⟩ := deB_word h0 hx
  have h2 := (low_and h0 hx).2
  generalize 18446744073709551616 - x = w at *
  generalize ctz 64 x = k at *
  have hix := deB_ix (pg := pg) (R := den pg) hd hi []
  have ec : wrapR .i64 (k : Int) = .i .i64 (k : Int) := wrapR_i64 (by omega)
  have hG := hF.G
  refine .of1 (x := .ret) (e := [(2, .i .i64 (k : Int))]) (H' := []) (hF.S _ _ (by decide)) (d := d84) (by rw [hF.F]; rfl) rfl ?_ (.inl rfl) rfl (by simp [sn_i, sn_b, sn_nil, sn8_i, sn8_b, sn8_nil, sn7_i, sn7_b, sn_sl, sn8_sl, slB_some, sn_tup, sn_agg, sn8_agg, mapO, elems])
  generalize (deB.map fun n => TV.i .u8 n) = tb at *
  simp [d84, c84, zipE, go_nil, go_last, go_past, go_pastR, go_blkN, go_blkR, go_blkE, go_skip, go_exit, go_ret, go_scope, go_seq, go_reg, go_regd, go_opdN, go_opd, go_opdG, grdd_b, grdd_u, stpd_some, find_some, go_block, go_cond, cnd_b, go_opsN, go_ops, go_opsG, grd_b, grd_u, stp_some, fin_some, up_some, cont_some, k_call, k_mv, k_pick, k_bin, k_eqB, k_eqA, k_not, k_neg, k_conv, k_alloc, k_boxA, k_boxI, k_boxB, k_boxN, k_boxBs, k_ldR, k_ldA, k_ldI, k_ldB, k_stA, k_stI, k_stB, ldC_some, stC_some, k_mkfn, k_slc, k_slcA, k_ixA, k_ixBs, k_ixSl, k_fadr, k_fld, k_ext, k_len, k_app, k_mn, k_mx, k_nilck, k_build, k_bsl1, k_bsl2, b_add, b_sub, b_mul, b_eql, b_neq, b_lss, b_leq, b_gtr, b_geq, Dn.setLast, Dn.getLast, evalO, mapO, Dn.get, putE, keepE, TV.one, TV.isAgg, Dn.part, e0, en, ea, em, es, hG, hix, ec]

theorem call84 {pg : Pg} (hF : Free pg) {x : Nat} (h0 : 0 < x) (hx : x < 18446744073709551616) (H : Heap) : callRun pg (den pg) (.pu []) [.fn 84 [] [], .i .u64 (x : Int)] H = some (.i .i64 (ctz 64 x : Int), H) :=
  PFn.call (fn84 hF h0 hx) (args := [.i .u64 (x : Int)]) (by simp [snapArgs, sn_i])

end Go.Proofs.Tryd.Dn

/-
  Knight: a range over the members of a set.
-/

namespace Go.Proofs.Tryd.Dn
open Go.Dn

def lp1 (as_ bd : DC) (p : Nat) (ks : List Nat) (e : Env) : ALoop := { env := keepE ks e, params := [p], assign := as_, body := bd, st := .ready, pend := none }

def Rnd (pg : Pg) (lp s : Nat) (L : ALoop) (P : List Nat → Heap → Prop) (Q : Ex → Heap → Prop) : Prop :=
  ∀ k rest H, P (k :: rest) H → H[lp]? = some (.loop L) → k < 64 →
    (∃ H2, Body pg lp L [.i .i64 (k : Int)] H .normal H2 ∧ P rest H2 ∧ H2[s]? = H[s]?) ∨ (∃ x H2, x ≠ .normal ∧ Body pg lp L [.i .i64 (k : Int)] H x H2 ∧ Q x H2)

theorem l93_all {pg : Pg} (hF : Free pg) {lp s : Nat} (hne : s ≠ lp) {L : ALoop} (hst : L.st = .ready) (hpe : L.pend = none) (hpa : L.params.length = 1) {P : List Nat → Heap → Prop} {Q : Ex → Heap → Prop} (hset : ∀ l H c, P l H → P l (H.set s c))
    (hR : Rnd pg lp s L P Q) : ∀ (f x : Nat) (H : Heap), (mem64 x).length = f → x < 18446744073709551616 → H[s]? = some (.cells [.i .u64 (x : Int)] false) → H[lp]? = some (.loop L) → P (mem64 x) H →
    (∃ e H2, den pg l93_1 [(0, .yl lp), (1, .ref s 0)] H = some ⟨.exit 0, e, H2⟩ ∧ H2[lp]? = some (.loop L) ∧ P [] H2) ∨
    (∃ x e H2, x ≠ .normal ∧ den pg l93_1 [(0, .yl lp), (1, .ref s 0)] H = some ⟨.ret, e, H2.set lp (.loop { L with st := .done, pend := some x })⟩ ∧ H2[lp]? = some (.loop L) ∧ Q x H2)
  | 0, x, H, hf, hx, hs, hl, hP => by
    have h0 : x = 0 := by
      apply Classical.byContradiction
      intro h
      have := (mem64_step (x := x) (by omega) hx).1
      rw [this] at hf
      simp at hf
    subst h0
    rw [mem64_zero] at hP
    have l1 := ld_box (pg := pg) (R := den pg) hs rfl
    refine .inl ⟨[(0, .yl lp), (1, .ref s 0), (4, .b false)], H, ?_, hl, hP⟩
    rw [l93_1, den_loop]
    simp [b93_0, go_nil, go_last, go_past, go_pastR, go_blkN, go_blkR, go_blkE, go_skip, go_exit, go_ret, go_scope, go_seq, go_reg, go_regd, go_opdN, go_opd, go_opdG, grdd_b, grdd_u, stpd_some, find_some, go_block, go_cond, cnd_b, go_opsN, go_ops, go_opsG, grd_b, grd_u, stp_some, fin_some, up_some, cont_some, k_call, k_mv, k_pick, k_bin, k_eqB, k_eqA, k_not, k_neg, k_conv, k_alloc, k_boxA, k_boxI, k_boxB, k_boxN, k_boxBs, k_ldR, k_ldA, k_ldI, k_ldB, k_stA, k_stI, k_stB, ldC_some, stC_some, k_mkfn, k_slc, k_slcA, k_ixA, k_ixBs, k_ixSl, k_fadr, k_fld, k_ext, k_len, k_app, k_mn, k_mx, k_nilck, k_build, k_bsl1, k_bsl2, b_add, b_sub, b_mul, b_eql, b_neq, b_lss, b_leq, b_gtr, b_geq, Dn.setLast, Dn.getLast, evalO, mapO, Dn.get, putE, keepE, TV.one, TV.isAgg, Dn.part, l1]
  | f + 1, x, H, hf, hx, hs, hl, hP => by
    have h0 : 0 < x := by
      apply Classical.byContradiction
      intro h
      have : x = 0 := by omega
      subst this
      rw [mem64_zero] at hf
      simp at hf
    obtain ⟨hm, hlt⟩ := mem64_step h0 hx
    have hz := (low_and h0 hx).2
    have l1 := ld_box (pg := pg) (R := den pg) hs rfl
    have c84 := call84 hF h0 hx H
    have e0 : ¬ x = 0 := by omega
    rw [hm] at hP
    rcases hR _ _ H hP hl hz with ⟨H2, hb, hP2, hs2⟩ | ⟨y, H2, hy, hb, hQ⟩
    · have hyl := yield_of hst hpe (by simpa using hpa) hl hb
      rw [if_pos rfl] at hyl
      rw [hs] at hs2
      have hl2 := hb.there
      have l2 := ld_box (pg := pg) (R := den pg) hs2 rfl
      have w1 : wrapR .u64 ((x : Int) - 1) = .i .u64 ((x - 1 : Nat) : Int) := by
        rw [show (x : Int) - 1 = ((x - 1 : Nat) : Int) by omega]; exact wrap_u (by omega)
      have a1 := and_uu (m := x) (k := x - 1) hx (by omega)
      rw [show x &&& (x - 1) = drop1 x from rfl] at a1
      have st := st_box (pg := pg) (R := den pg) (v := .i .u64 (drop1 x : Int)) hs2 rfl
      have hlt2 := (List.getElem?_eq_some_iff.1 hs2).1
      rcases l93_all hF hne hst hpe hpa hset hR f (drop1 x) (H2.set s (.cells [.i .u64 (drop1 x : Int)] false)) (by rw [hm] at hf; simpa using hf) (by omega) (by rw [List.getElem?_set_self hlt2]) (by rw [List.getElem?_set_ne hne]; exact hl2) (hset _ _ _ hP2) with ⟨e, H3, r1, r2, r3⟩ | ⟨y, e, H3, r0, r1, r2, r3⟩
      · refine .inl ⟨e, H3, Eq.trans ?_ r1, r2, r3⟩
        generalize x - 1 = x1 at *
        generalize drop1 x = xd at *
        rw [l93_1, den_loop]
        simp [l93_1, b93_0, go_nil, go_last, go_past, go_pastR, go_blkN, go_blkR, go_blkE, go_skip, go_exit, go_ret, go_scope, go_seq, go_reg, go_regd, go_opdN, go_opd, go_opdG, grdd_b, grdd_u, stpd_some, find_some, go_block, go_cond, cnd_b, go_opsN, go_ops, go_opsG, grd_b, grd_u, stp_some, fin_some, up_some, cont_some, k_call, k_mv, k_pick, k_bin, k_eqB, k_eqA, k_not, k_neg, k_conv, k_alloc, k_boxA, k_boxI, k_boxB, k_boxN, k_boxBs, k_ldR, k_ldA, k_ldI, k_ldB, k_stA, k_stI, k_stB, ldC_some, stC_some, k_mkfn, k_slc, k_slcA, k_ixA, k_ixBs, k_ixSl, k_fadr, k_fld, k_ext, k_len, k_app, k_mn, k_mx, k_nilck, k_build, k_bsl1, k_bsl2, b_add, b_sub, b_mul, b_eql, b_neq, b_lss, b_leq, b_gtr, b_geq, Dn.setLast, Dn.getLast, evalO, mapO, Dn.get, putE, keepE, TV.one, TV.isAgg, Dn.part, l1, e0, c84, sh_yl, hyl, l2, w1, a1, st]
      · refine .inr ⟨y, e, H3, r0, Eq.trans ?_ r1, r2, r3⟩
        generalize x - 1 = x1 at *
        generalize drop1 x = xd at *
        rw [l93_1, den_loop]
        simp [l93_1, b93_0, go_nil, go_last, go_past, go_pastR, go_blkN, go_blkR, go_blkE, go_skip, go_exit, go_ret, go_scope, go_seq, go_reg, go_regd, go_opdN, go_opd, go_opdG, grdd_b, grdd_u, stpd_some, find_some, go_block, go_cond, cnd_b, go_opsN, go_ops, go_opsG, grd_b, grd_u, stp_some, fin_some, up_some, cont_some, k_call, k_mv, k_pick, k_bin, k_eqB, k_eqA, k_not, k_neg, k_conv, k_alloc, k_boxA, k_boxI, k_boxB, k_boxN, k_boxBs, k_ldR, k_ldA, k_ldI, k_ldB, k_stA, k_stI, k_stB, ldC_some, stC_some, k_mkfn, k_slc, k_slcA, k_ixA, k_ixBs, k_ixSl, k_fadr, k_fld, k_ext, k_len, k_app, k_mn, k_mx, k_nilck, k_build, k_bsl1, k_bsl2, b_add, b_sub, b_mul, b_eql, b_neq, b_lss, b_leq, b_gtr, b_geq, Dn.setLast, Dn.getLast, evalO, mapO, Dn.get, putE, keepE, TV.one, TV.isAgg, Dn.part, l1, e0, c84, sh_yl, hyl, l2, w1, a1, st]
    · have hyl := yield_of hst hpe (by simpa using hpa) hl hb
      rw [if_neg hy] at hyl
      refine .inr ⟨y, [(0, .yl lp), (1, .ref s 0), (13, .b true)], H2, hy, ?_, hb.there, hQ⟩
      rw [l93_1, den_loop]
      simp [b93_0, go_nil, go_last, go_past, go_pastR, go_blkN, go_blkR, go_blkE, go_skip, go_exit, go_ret, go_scope, go_seq, go_reg, go_regd, go_opdN, go_opd, go_opdG, grdd_b, grdd_u, stpd_some, find_some, go_block, go_cond, cnd_b, go_opsN, go_ops, go_opsG, grd_b, grd_u, stp_some, fin_some, up_some, cont_some, k_call, k_mv, k_pick, k_bin, k_eqB, k_eqA, k_not, k_neg, k_conv, k_alloc, k_boxA, k_boxI, k_boxB, k_boxN, k_boxBs, k_ldR, k_ldA, k_ldI, k_ldB, k_stA, k_stI, k_stB, ldC_some, stC_some, k_mkfn, k_slc, k_slcA, k_ixA, k_ixBs, k_ixSl, k_fadr, k_fld, k_ext, k_len, k_app, k_mn, k_mx, k_nilck, k_build, k_bsl1, k_bsl2, b_add, b_sub, b_mul, b_eql, b_neq, b_lss, b_leq, b_gtr, b_geq, Dn.setLast, Dn.getLast, evalO, mapO, Dn.get, putE, keepE, TV.one, TV.isAgg, Dn.part, l1, e0, c84, sh_yl, hyl]

theorem Body.of {pg : Pg} {lp : Nat} {L : ALoop} {args : List TV} {H H5 : Heap} {e1 e2 : Env} {x : Ex} (ha : den pg L.assign ((L.params.zip args).reverse ++ L.env) H = some ⟨.normal, e1, H⟩) (hl : H[lp]? = some (.loop L))
    (hb : den pg L.body e1 (H.set lp (.loop { L with st := .busy })) = some ⟨x, e2, H5⟩) (h5 : H5[lp]? = some (.loop { L with st := .busy })) : Body pg lp L args H x (H5.set lp (.loop L)) := ⟨e1, H, e2, H5, ha, hl, hb, h5, rfl⟩

theorem rng {pg : Pg} (hF : Free pg) {f s p : Nat} {as_ bd : DC} {ks : List Nat} {e : Env} {H : Heap} {x : Nat} (he : Dn.get e f = some (.fn 93 [] [.ref s 0])) (hs : H[s]? = some (.cells [.i .u64 (x : Int)] false)) (hx : x < 18446744073709551616)
    {P : List Nat → Heap → Prop} {Q : Ex → Heap → Prop} (h0 : P (mem64 x) (H ++ [.loop (lp1 as_ bd p ks e)])) (hset : ∀ l H c, P l H → P l (H.set s c)) (hR : Rnd pg H.length s (lp1 as_ bd p ks e) P Q) :
    (∃ H2, (∀ K, go pg (den pg) (.c (.rfunc (.t f) [p] as_ bd ks) :: K) .normal e H = go pg (den pg) K .normal (keepE ks e) (H2.set H.length (.loop { lp1 as_ bd p ks e with st := .exhausted }))) ∧ P [] H2) ∨
    (∃ x H2, x ≠ .normal ∧ (∀ K, go pg (den pg) (.c (.rfunc (.t f) [p] as_ bd ks) :: K) .normal e H = go pg (den pg) K x (keepE ks e) (H2.set H.length (.loop { lp1 as_ bd p ks e with st := .exhausted, pend := some x }))) ∧ Q x H2) := by
  have hsl := (List.getElem?_eq_some_iff.1 hs).1
  have hd : pg.F 93 = some d93 := by rw [hF.F]; rfl
  have run := l93_all hF (lp := H.length) (s := s) (by omega) (L := lp1 as_ bd p ks e) rfl rfl rfl hset hR _ x (H ++ [.loop (lp1 as_ bd p ks e)]) rfl hx (by rw [List.getElem?_append_left hsl]; exact hs) (getLast _ _) h0
  rcases run with ⟨e2, H2, r1, r2, r3⟩ | ⟨y, e2, H2, r0, r1, r2, r3⟩
  · have hb : bodyRun pg (den pg) 93 [.yl H.length, .ref s 0] (H ++ [.loop (lp1 as_ bd p ks e)]) = some (.tup [], H2) := by
      refine bodyRun_of (vs := []) (o := ⟨.normal, e2, H2⟩) hd rfl ?_ (by simp) rfl
      rw [runC_go]
      simp [d93, c93, zipE, go_nil, go_last, go_past, go_pastR, go_blkN, go_blkR, go_blkE, go_skip, go_exit, go_ret, go_scope, go_seq, go_reg, go_regd, go_opdN, go_opd, go_opdG, grdd_b, grdd_u, stpd_some, find_some, go_block, go_cond, cnd_b, go_opsN, go_ops, go_opsG, grd_b, grd_u, stp_some, fin_some, up_some, cont_some, k_call, k_mv, k_pick, k_bin, k_eqB, k_eqA, k_not, k_neg, k_conv, k_alloc, k_boxA, k_boxI, k_boxB, k_boxN, k_boxBs, k_ldR, k_ldA, k_ldI, k_ldB, k_stA, k_stI, k_stB, ldC_some, stC_some, k_mkfn, k_slc, k_slcA, k_ixA, k_ixBs, k_ixSl, k_fadr, k_fld, k_ext, k_len, k_app, k_mn, k_mx, k_nilck, k_build, k_bsl1, k_bsl2, b_add, b_sub, b_mul, b_eql, b_neq, b_lss, b_leq, b_gtr, b_geq, Dn.setLast, Dn.getLast, evalO, mapO, Dn.get, putE, keepE, TV.one, TV.isAgg, Dn.part, go_denK (c := l93_1) rfl, r1]
    refine .inl ⟨H2, fun K => ?_, r3⟩
    have := go_rfunc (pg := pg) (K := K) (f := .t f) (ps := [p]) (as_ := as_) (bd := bd) (ks := ks) (e := e) (H := H) (fv := .fn 93 [] [.ref s 0]) (r := .tup []) (L := lp1 as_ bd p ks e) (H2 := H2) he (by rw [sh_fn]; exact hb) r2 (by simp [lp1])
    rw [this]
    rfl
  · have hlt := (List.getElem?_eq_some_iff.1 r2).1
    have hb : bodyRun pg (den pg) 93 [.yl H.length, .ref s 0] (H ++ [.loop (lp1 as_ bd p ks e)]) = some (.tup [], H2.set H.length (.loop { lp1 as_ bd p ks e with st := .done, pend := some y })) := by
      refine bodyRun_of (vs := []) (o := ⟨.ret, e2, _⟩) hd rfl ?_ (by simp) rfl
      rw [runC_go]
      simp [d93, c93, zipE, go_nil, go_last, go_past, go_pastR, go_blkN, go_blkR, go_blkE, go_skip, go_exit, go_ret, go_scope, go_seq, go_reg, go_regd, go_opdN, go_opd, go_opdG, grdd_b, grdd_u, stpd_some, find_some, go_block, go_cond, cnd_b, go_opsN, go_ops, go_opsG, grd_b, grd_u, stp_some, fin_some, up_some, cont_some, k_call, k_mv, k_pick, k_bin, k_eqB, k_eqA, k_not, k_neg, k_conv, k_alloc, k_boxA, k_boxI, k_boxB, k_boxN, k_boxBs, k_ldR, k_ldA, k_ldI, k_ldB, k_stA, k_stI, k_stB, ldC_some, stC_some, k_mkfn, k_slc, k_slcA, k_ixA, k_ixBs, k_ixSl, k_fadr, k_fld, k_ext, k_len, k_app, k_mn, k_mx, k_nilck, k_build, k_bsl1, k_bsl2, b_add, b_sub, b_mul, b_eql, b_neq, b_lss, b_leq, b_gtr, b_geq, Dn.setLast, Dn.getLast, evalO, mapO, Dn.get, putE, keepE, TV.one, TV.isAgg, Dn.part, go_denK (c := l93_1) rfl, r1]
    refine .inr ⟨y, H2, r0, fun K => ?_, r3⟩
    have := go_rfunc (pg := pg) (K := K) (f := .t f) (ps := [p]) (as_ := as_) (bd := bd) (ks := ks) (e := e) (H := H) (fv := .fn 93 [] [.ref s 0]) (r := .tup []) (L := { lp1 as_ bd p ks e with st := .done, pend := some y }) he (by rw [sh_fn]; exact hb) (by rw [List.getElem?_set_self hlt]) (by simp)
    rw [this, List.set_set]
    rfl

theorem body63 {pg : Pg} (hF : Free pg) (x : Nat) (H : Heap) : bodyRun pg (den pg) 63 [.i .u64 (x : Int)] H = some (.fn 93 [] [.ref H.length 0], H ++ [.cells [.i .u64 (x : Int)] false]) := by
  refine body_of (x := .ret) (e := [(2, .fn 93 [] [.ref H.length 0])]) (d := d63) (by rw [hF.F]; rfl) rfl ?_ (.inl rfl) rfl
  simp [d63, c63, zipE, go_nil, go_last, go_past, go_pastR, go_blkN, go_blkR, go_blkE, go_skip, go_exit, go_ret, go_scope, go_seq, go_reg, go_regd, go_opdN, go_opd, go_opdG, grdd_b, grdd_u, stpd_some, find_some, go_block, go_cond, cnd_b, go_opsN, go_ops, go_opsG, grd_b, grd_u, stp_some, fin_some, up_some, cont_some, k_call, k_mv, k_pick, k_bin, k_eqB, k_eqA, k_not, k_neg, k_conv, k_alloc, k_boxA, k_boxI, k_boxB, k_boxN, k_boxBs, k_ldR, k_ldA, k_ldI, k_ldB, k_stA, k_stI, k_stB, ldC_some, stC_some, k_mkfn, k_slc, k_slcA, k_ixA, k_ixBs, k_ixSl, k_fadr, k_fld, k_ext, k_len, k_app, k_mn, k_mx, k_nilck, k_build, k_bsl1, k_bsl2, b_add, b_sub, b_mul, b_eql, b_neq, b_lss, b_leq, b_gtr, b_geq, Dn.setLast, Dn.getLast, evalO, mapO, Dn.get, putE, keepE, TV.one, TV.isAgg, Dn.part]

end Go.Proofs.Tryd.Dn

/-
  Knight: the board opened.
-/

namespace Go.Proofs.Tryd.Dn
open Go.Dn

theorem b_quo (k : IntKind) (x y : Int) : binI .quo (.i k x) (.i k y) = if y = 0 then none else some (wrapR k (x.tdiv y)) := by simp [binI]

def put (r c s : Nat) (m : Nat) (d : Int × Int) : Nat :=
  if 0 ≤ (s / c : Nat) + d.1 ∧ (s / c : Nat) + d.1 < (r : Int) ∧ 0 ≤ (s % c : Nat) + d.2 ∧ (s % c : Nat) + d.2 < (c : Int) then m ||| 2 ^ (((s / c : Nat) + d.1) * c + ((s % c : Nat) + d.2)).toNat else m

def signs : List (Int × Int) := [(1, 1), (1, -1), (-1, 1), (-1, -1)]
def puts (r c s : Nat) (d : Int × Int) (m : Nat) : Nat := signs.foldl (fun m g => put r c s m (d.1 * g.1, d.2 * g.2)) m
def mv (r c s : Nat) : Nat := puts r c s (2, 1) (puts r c s (1, 2) 0)

structure Brd (r c : Nat) : Prop where
  r1 : 1 ≤ r
  c1 : 1 ≤ c
  r8 : r ≤ 8
  c8 : c ≤ 8
  n36 : r * c ≤ 36

def bC (r c : Nat) (f : Nat → Nat) : List TV := .i .i64 (r : Int) :: .i .i64 (c : Int) :: .i .i64 ((r * c : Nat) : Int) :: (List.range 36).map fun s => .i .u64 (f s : Int)

def upd (f : Nat → Nat) (s v : Nat) : Nat → Nat := fun i => if i = s then v else f i

theorem bC_len (r c : Nat) (f : Nat → Nat) : (bC r c f).length = 39 := by simp [bC]
theorem bC_at (r c : Nat) (f : Nat → Nat) {s : Nat} (h : s < 36) : (bC r c f)[3 + s]? = some (.i .u64 (f s : Int)) := by
  rw [show 3 + s = s + 1 + 1 + 1 by omega]
  simp [bC, h]
theorem bC_put (r c : Nat) (f : Nat → Nat) {s : Nat} (h : s < 36) (v : Nat) : put2 (bC r c f) (3 + s) [.i .u64 (v : Int)] = bC r c (upd f s v) := by
  rw [El.put2_set _ (by rw [bC_len]; omega)]
  apply List.ext_getElem?
  intro i
  by_cases hi : i = 3 + s
  · subst hi
    rw [List.getElem?_set_self (by rw [bC_len]; omega), bC_at _ _ _ h]
    simp [upd]
  · rw [List.getElem?_set_ne (by omega)]
    match i with
    | 0 => rfl
    | 1 => rfl
    | 2 => rfl
    | i + 3 =>
      by_cases h2 : i < 36
      · rw [show i + 3 = 3 + i by omega, bC_at _ _ _ h2, bC_at _ _ _ h2]
        simp only [upd, if_neg (show ¬ i = s by omega)]
      · rw [List.getElem?_eq_none (by rw [bC_len]; omega), List.getElem?_eq_none (by rw [bC_len]; omega)]

section
variable {pg : Pg} {R : Rec}
theorem ld_n {r c : Nat} {f : Nat → Nat} {M : Nat} {H : Heap} (h : H[M]? = some (.cells (bC r c f) true)) : dkc pg R (.ld 1 false) [.ref M 2] H = some (.i .i64 ((r * c : Nat) : Int), H) := by
  rw [k_ldR, h, ldC_some, part_one (by rfl) (by rfl)]; rfl
theorem ld_m {r c : Nat} {f : Nat → Nat} {M : Nat} {H : Heap} (h : H[M]? = some (.cells (bC r c f) true)) {s : Nat} (hs : s < 36) : dkc pg R (.ld 1 false) [.ref M (3 + s)] H = some (.i .u64 (f s : Int), H) := by
  rw [k_ldR, h, ldC_some, part_one (bC_at r c f hs) (by rfl)]; rfl
theorem st_m {r c : Nat} {f : Nat → Nat} {M : Nat} {H : Heap} (h : H[M]? = some (.cells (bC r c f) true)) {s : Nat} (hs : s < 36) (v : Nat) : dkc pg R (.st 1) [.ref M (3 + s), .i .u64 (v : Int)] H = some (.undef, H.set M (.cells (bC r c (upd f s v)) true)) := by
  rw [k_stI, h, stC_some, if_pos ⟨rfl, rfl, by rw [bC_len]; omega⟩, bC_put r c f hs v]
theorem ix_m {M : Nat} {k : IntKind} {s : Nat} (hs : s < 36) (H : Heap) : dkc pg R (.ixA 36 1 false) [.ref M 3, .i k (s : Int)] H = some (.ref M (3 + s), H) := by
  rw [k_ixA _ _ _ _ _ _ _ _ (by omega) (by omega)]; simp
end

theorem mv_lt {r c s : Nat} (h : Brd r c) (hs : s < r * c) (m : Nat) (hm : m < 2 ^ (r * c)) (d : Int × Int) : put r c s m d < 2 ^ (r * c) := by
  unfold put
  split
  · rename_i h1
    obtain ⟨a1, a2, a3, a4⟩ := h1
    refine or_lt hm (Nat.pow_lt_pow_right (by decide) ?_)
    have hi : ((s / c : Nat) + d.1) + 1 ≤ (r : Int) := by omega
    have : (((s / c : Nat) + d.1) + 1) * (c : Int) ≤ (r : Int) * c := Int.mul_le_mul_of_nonneg_right hi (by omega)
    rw [Int.add_mul] at this
    have h0 : 0 ≤ ((s / c : Nat) + d.1) * (c : Int) := Int.mul_nonneg a1 (by omega)
    have hc : ((r * c : Nat) : Int) = (r : Int) * c := by simp
    omega
  · exact hm

end Go.Proofs.Tryd.Dn

