/-
  Knight: the law of distances, run.
-/
import Derived.Test.YtdjbpmgbaggfbaaDoorKf8
import Derived.Test.YtdjbpmgbaggfbaaDoorKf5
set_option linter.unusedSimpArgs false
set_option linter.unusedVariables false

namespace Go.Proofs.Tryd.Dn
open Go.Dn

/-! distances, in plain terms -/
/-- the least number of moves -/
def Dst (r c a b m : Nat) : Prop := (front r c a m).testBit b = true

theorem Dst.pos {r c a b m : Nat} (h : Brd r c) (ha : a < r * c) (hb : b < r * c) (hd : Dst r c a b m) : 0 < walks r c a m b := front_walks h ha m b hb hd
theorem Dst.least {r c a b m : Nat} (h : Brd r c) (ha : a < r * c) (hb : b < r * c) (hd : Dst r c a b m) {n : Nat} (hn : 0 < walks r c a n b) : m ≤ n := by
  obtain ⟨j, h1, h2⟩ := walks_front h ha n b hb hn
  have := front_uniq h ha hd h2
  omega
theorem Dst.of {r c a b m : Nat} (h : Brd r c) (ha : a < r * c) (hb : b < r * c) (h1 : 0 < walks r c a m b) (h2 : ∀ n, 0 < walks r c a n b → m ≤ n) : Dst r c a b m := by
  obtain ⟨j, h3, h4⟩ := walks_front h ha m b hb h1
  have h5 := h2 j (front_walks h ha j b hb h4)
  have : j = m := by omega
  subst this
  exact h4
theorem Dst.symm {r c a b m : Nat} (h : Brd r c) (ha : a < r * c) (hb : b < r * c) (hd : Dst r c a b m) : Dst r c b a m :=
  Dst.of h hb ha (by rw [← walks_symm m a b ha hb]; exact hd.pos h ha hb) fun n hn => hd.least h ha hb (by rw [walks_symm n a b ha hb]; exact hn)

theorem walks_cat {r c a d p : Nat} (ha : a < r * c) (hd : d < r * c) (h1 : 0 < walks r c a p d) : ∀ (q b : Nat), b < r * c → 0 < walks r c d q b → 0 < walks r c a (p + q) b
  | 0, b, hb, h2 => by
    by_cases hbd : b = d
    · subst hbd; exact h1
    · simp [walks, hbd] at h2
  | q + 1, b, hb, h2 => by
    obtain ⟨s, s1, s2, s3⟩ := (walks_pos hb).1 h2
    exact (walks_pos hb).2 ⟨s, s1, s2, walks_cat ha hd h1 q s s1 s3⟩

theorem Dst.tri {r c a b d m p q : Nat} (h : Brd r c) (ha : a < r * c) (hb : b < r * c) (hd : d < r * c) (h0 : Dst r c a b m) (h1 : Dst r c a d p) (h2 : Dst r c d b q) : m ≤ p + q :=
  h0.least h ha hb (walks_cat ha hd (h1.pos h ha hd) q b hb (h2.pos h hd hb))
theorem Dst.some {r c a b d p q : Nat} (h : Brd r c) (ha : a < r * c) (hb : b < r * c) (hd : d < r * c) (h1 : Dst r c a d p) (h2 : Dst r c d b q) : ∃ m, Dst r c a b m := by
  obtain ⟨j, _, h4⟩ := walks_front h ha (p + q) b hb (walks_cat ha hd (h1.pos h ha hd) q b hb (h2.pos h hd hb))
  exact ⟨j, h4⟩

theorem Dst.zero {r c a b m : Nat} (h : Brd r c) (ha : a < r * c) (hb : b < r * c) (hd : Dst r c a b m) : m = 0 ↔ a = b := by
  have h0 : Dst r c a a 0 := by show (2 ^ a).testBit a = true; rw [Nat.testBit_two_pow, decide_eq_true_eq]
  constructor
  · rintro rfl
    have : (2 ^ a).testBit b = true := hd
    rwa [Nat.testBit_two_pow, decide_eq_true_eq] at this
  · rintro rfl
    exact front_uniq h ha hd h0

theorem Dst.parity {r c a b m : Nat} (h : Brd r c) (ha : a < r * c) (hb : b < r * c) (hd : Dst r c a b m) : (b / c + b % c + (a / c + a % c) + m) % 2 = 0 := walks_parity h m b hb (hd.pos h ha hb)

theorem pop_lt {n x : Nat} (hn : n ≤ 64) (hx : x < 2 ^ n) : pop 64 x ≤ n := by
  rw [← mem64_len, mem64_range hn hx]
  exact Nat.le_trans (List.length_filter_le _ _) (by simp)

theorem Dst.le {r c a b m : Nat} (h : Brd r c) (ha : a < r * c) (hb : b < r * c) (hd : Dst r c a b m) : m + 1 ≤ r * c := by
  have hn := h.n36
  have hk : ∀ k, k < m + 1 → (lv r c a k).2 ≠ 0 := by
    intro k hk h0
    have h0' : front r c a k = 0 := h0
    have hall := none_at h ha hb h0' (fun j hj => by
      cases hj' : (front r c a j).testBit b with
      | false => rfl
      | true => have := front_uniq h ha hd hj'; omega) m
    have : (front r c a m).testBit b = true := hd
    rw [hall] at this
    cases this
  have h1 := lv_many h ha (m + 1) hk
  have h2 := pop_lt (by omega) (lv_lt h ha (m + 1)).1
  omega

/-- a move further -/
theorem Dst.move {r c a b s m : Nat} (h : Brd r c) (ha : a < r * c) (hb : b < r * c) (hs : s < r * c) (hn : near c b s = true) (hd : Dst r c a b m) : ∃ z, Dst r c a s z ∧ (z = m + 1 ∨ z + 1 = m) := by
  have w1 : 0 < walks r c a (m + 1) s := (walks_pos hs).2 ⟨b, hb, hn, hd.pos h ha hb⟩
  obtain ⟨z, z1, z2⟩ := walks_front h ha (m + 1) s hs w1
  have z2' : Dst r c a s z := z2
  refine ⟨z, z2', ?_⟩
  have w2 : 0 < walks r c a (z + 1) b := (walks_pos hb).2 ⟨s, hs, by rw [near_comm]; exact hn, z2'.pos h ha hs⟩
  have l2 := hd.least h ha hb w2
  have p1 := hd.parity h ha hb
  have p2 := z2'.parity h ha hs
  have p3 := near_parity hn
  omega

theorem fn29' {pg : Pg} (hF : Free pg) {r c a b : Nat} (h : Brd r c) (ha : a < r * c) (hb : b < r * c) :
    (∃ m : Nat, m + 1 ≤ r * c ∧ Dst r c a b m ∧ ∀ K, callRun pg (den pg) (.pu []) [.fn 29 [] [], .i .i64 (r : Int), .i .i64 (c : Int), .i .i64 (a : Int), .i .i64 (b : Int)] K = some (.tup [.i .i64 (m : Int), .b true, .i .i64 0], K)) ∨
    ((∀ m, ¬ Dst r c a b m) ∧ ∀ K, callRun pg (den pg) (.pu []) [.fn 29 [] [], .i .i64 (r : Int), .i .i64 (c : Int), .i .i64 (a : Int), .i .i64 (b : Int)] K = some (.tup [.i .i64 0, .b false, .i .i64 0], K)) := by
  rcases fn29 hF h ha hb with ⟨m, p29, q2, q3, q4⟩ | ⟨m, p29, q2, q3⟩
  · have hd : Dst r c a b m := q2
    exact .inl ⟨m, hd.le h ha hb, hd, fun K => PFn.at p29 (fun H => sa_I (sa_I (sa_I (sa_I sa_0)))) K⟩
  · refine .inr ⟨fun k hk => ?_, fun K => PFn.at p29 (fun H => sa_I (sa_I (sa_I (sa_I sa_0)))) K⟩
    have hk' : (front r c a k).testBit b = true := hk
    rw [none_at h ha hb q2 q3 k] at hk'
    cases hk'

def colR (c s : Nat) : Nat := (s / c + s % c) % 2

theorem fn44 {pg : Pg} (hF : Free pg) {c s : Nat} (hc : 1 ≤ c) (hs : s < 64) : PFn pg 44 [.i .i64 (c : Int), .i .i64 (s : Int)] (.i .i64 (colR c s : Int)) := by
  have t1 := tdiv_nat s c
  have m1 := tmod_nat s c
  have d1 : s / c < 64 := Nat.lt_of_le_of_lt (Nat.div_le_self _ _) hs
  have d3 : s % c < 64 := Nat.lt_of_le_of_lt (Nat.mod_le _ _) hs
  have c0 : ¬ c = 0 := by omega
  unfold colR
  generalize s / c = x at *
  generalize s % c = z at *
  have w1 : wrapR .i64 ((x : Int) + (z : Int)) = .i .i64 ((x + z : Nat) : Int) := by rw [show (x : Int) + z = ((x + z : Nat) : Int) by omega]; exact wrapR_i64 (by omega)
  have w0 : wrapR .i64 (x : Int) = .i .i64 (x : Int) := wrapR_i64 (by omega)
  have m2 := tmod_nat (x + z) 2
  simp only [Int.cast_ofNat_Int] at m2
  generalize (x + z) % 2 = y at *
  generalize ((x + z : Nat) : Int) = W at *
  refine .of1 (x := .ret) (e := [(4, .i .i64 (y : Int))]) (H' := []) (hF.S _ _ (by decide)) (d := d44) (by rw [hF.F]; rfl) rfl ?_ (.inl rfl) rfl (by simp [sn_i, sn_b, sn_nil, sn8_i, sn8_b, sn8_nil, sn7_i, sn7_b, sn_sl, sn8_sl, slB_some, sn_tup, sn_agg, sn8_agg, mapO, elems])
  simp [d44, c44, zipE, go_nil, go_last, go_past, go_pastR, go_blkN, go_blkR, go_blkE, go_skip, go_exit, go_ret, go_scope, go_seq, go_reg, go_regd, go_opdN, go_opd, go_opdG, grdd_b, grdd_u, stpd_some, find_some, go_block, go_cond, cnd_b, go_opsN, go_ops, go_opsG, grd_b, grd_u, stp_some, fin_some, up_some, cont_some, k_call, k_mv, k_pick, k_bin, k_eqB, k_eqA, k_not, k_neg, k_conv, k_alloc, k_boxA, k_boxI, k_boxB, k_boxN, k_boxBs, k_ldR, k_ldA, k_ldI, k_ldB, k_stA, k_stI, k_stB, ldC_some, stC_some, k_mkfn, k_slc, k_slcA, k_ixA, k_ixBs, k_ixSl, k_fadr, k_fld, k_ext, k_len, k_app, k_mn, k_mx, k_nilck, k_build, k_bsl1, k_bsl2, b_add, b_sub, b_mul, b_eql, b_neq, b_lss, b_leq, b_gtr, b_geq, Dn.setLast, Dn.getLast, evalO, mapO, Dn.get, putE, keepE, TV.one, TV.isAgg, Dn.part, b_quo, b_rem, c0, t1, m1, w0, w1, m2]

/-- the squares a move away from the goal are one nearer or farther -/
theorem l9_1_all {pg : Pg} (hF : Free pg) {r c a b m : Nat} (h : Brd r c) (ha : a < r * c) (hb : b < r * c) (hd0 : Dst r c a b m) {ME : TV} {H : Heap} : ∀ (d k : Nat), k + d = (movR r c b).length →
    ∃ e, den pg l9_1 [(0, .i .i64 (r : Int)), (1, .i .i64 (c : Int)), (7, .i .i64 (a : Int)), (8, .i .i64 (b : Int)), (10, .i .i64 (m : Int)), (22, elI.lt false (nI (movR r c b))), (23, ME), (24, .i .i64 (k : Int))] H = some ⟨.exit 0, e, H⟩ ∧
      keepE [0, 1, 7, 8, 10, 23] e = [(0, .i .i64 (r : Int)), (1, .i .i64 (c : Int)), (7, .i .i64 (a : Int)), (8, .i .i64 (b : Int)), (10, .i .i64 (m : Int)), (23, ME)]
  | 0, k, hd => by
    have hlen := fun K => El.lt_len (E := elI) false (nI (movR r c b)) K
    rw [nI_len] at hlen
    generalize elI.lt false (nI (movR r c b)) = ML at *
    exact ⟨_, by
      rw [l9_1, den_loop]
      simp (disch := omega) [b9_0, go_nil, go_last, go_past, go_pastR, go_blkN, go_blkR, go_blkE, go_skip, go_exit, go_ret, go_scope, go_seq, go_reg, go_regd, go_opdN, go_opd, go_opdG, grdd_b, grdd_u, stpd_some, find_some, go_block, go_cond, cnd_b, go_opsN, go_ops, go_opsG, grd_b, grd_u, stp_some, fin_some, up_some, cont_some, k_call, k_mv, k_pick, k_bin, k_eqB, k_eqA, k_not, k_neg, k_conv, k_alloc, k_boxA, k_boxI, k_boxB, k_boxN, k_boxBs, k_ldR, k_ldA, k_ldI, k_ldB, k_stA, k_stI, k_stB, ldC_some, stC_some, k_mkfn, k_slc, k_slcA, k_ixA, k_ixBs, k_ixSl, k_fadr, k_fld, k_ext, k_len, k_app, k_mn, k_mx, k_nilck, k_build, k_bsl1, k_bsl2, b_add, b_sub, b_mul, b_eql, b_neq, b_lss, b_leq, b_gtr, b_geq, Dn.setLast, Dn.getLast, evalO, mapO, Dn.get, putE, keepE_nil, keepE_cons, kp_some, kp_none, TV.one, TV.isAgg, Dn.part, negb, at0, at1, at2, at3, at4, dT, dF, wrapR_i64, Option.bind_some, Option.map_some, hlen]
      rfl, rfl⟩
  | d + 1, k, hd => by
    have hn := h.n36
    have hk : k < (movR r c b).length := by omega
    have hml := movR_len r c b
    have hlen := fun K => El.lt_len (E := elI) false (nI (movR r c b)) K
    rw [nI_len] at hlen
    have hyk : (movR r c b)[k]? = some (movR r c b)[k] := List.getElem?_eq_getElem hk
    have hym : (movR r c b)[k] ∈ movR r c b := List.getElem_mem hk
    obtain ⟨z1, z2, z3⟩ := ixI (pg := pg) (R := den pg) (El.lt_view (E := elI) false (nI (movR r c b)) H) (nI_at hyk)
    generalize (movR r c b)[k] = y at *
    obtain ⟨hyr, hyn⟩ := movR_mem.1 hym
    obtain ⟨z, zd, zm⟩ := hd0.move h ha hb hyr hyn
    have hle := hd0.le h ha hb
    rcases fn29' (pg := pg) hF h ha hyr with ⟨z', zl, zd', c29⟩ | ⟨zd', _⟩
    · have hz : z = z' := front_uniq h ha zd zd'
      subst hz
      by_cases h8 : k < 8
      · obtain ⟨e, e1, e2⟩ := l9_1_all (pg := pg) hF h ha hb hd0 (ME := ME) (H := H) d (k + 1) (by omega)
        refine ⟨e, Eq.trans ?_ e1, e2⟩
        generalize elI.lt false (nI (movR r c b)) = ML at *
        rcases zm with zm | zm
        · rw [l9_1, den_loop]
          simp (disch := omega) [l9_1, b9_0, go_nil, go_last, go_past, go_pastR, go_blkN, go_blkR, go_blkE, go_skip, go_exit, go_ret, go_scope, go_seq, go_reg, go_regd, go_opdN, go_opd, go_opdG, grdd_b, grdd_u, stpd_some, find_some, go_block, go_cond, cnd_b, go_opsN, go_ops, go_opsG, grd_b, grd_u, stp_some, fin_some, up_some, cont_some, k_call, k_mv, k_pick, k_bin, k_eqB, k_eqA, k_not, k_neg, k_conv, k_alloc, k_boxA, k_boxI, k_boxB, k_boxN, k_boxBs, k_ldR, k_ldA, k_ldI, k_ldB, k_stA, k_stI, k_stB, ldC_some, stC_some, k_mkfn, k_slc, k_slcA, k_ixA, k_ixBs, k_ixSl, k_fadr, k_fld, k_ext, k_len, k_app, k_mn, k_mx, k_nilck, k_build, k_bsl1, k_bsl2, b_add, b_sub, b_mul, b_eql, b_neq, b_lss, b_leq, b_gtr, b_geq, Dn.setLast, Dn.getLast, evalO, mapO, Dn.get, putE, keepE_nil, keepE_cons, kp_some, kp_none, TV.one, TV.isAgg, Dn.part, negb, at0, at1, at2, at3, at4, dT, dF, wrapR_i64, Option.bind_some, Option.map_some, hlen, z2, z3, c29, bneT, bneF]
        · rw [l9_1, den_loop]
          simp (disch := omega) [l9_1, b9_0, go_nil, go_last, go_past, go_pastR, go_blkN, go_blkR, go_blkE, go_skip, go_exit, go_ret, go_scope, go_seq, go_reg, go_regd, go_opdN, go_opd, go_opdG, grdd_b, grdd_u, stpd_some, find_some, go_block, go_cond, cnd_b, go_opsN, go_ops, go_opsG, grd_b, grd_u, stp_some, fin_some, up_some, cont_some, k_call, k_mv, k_pick, k_bin, k_eqB, k_eqA, k_not, k_neg, k_conv, k_alloc, k_boxA, k_boxI, k_boxB, k_boxN, k_boxBs, k_ldR, k_ldA, k_ldI, k_ldB, k_stA, k_stI, k_stB, ldC_some, stC_some, k_mkfn, k_slc, k_slcA, k_ixA, k_ixBs, k_ixSl, k_fadr, k_fld, k_ext, k_len, k_app, k_mn, k_mx, k_nilck, k_build, k_bsl1, k_bsl2, b_add, b_sub, b_mul, b_eql, b_neq, b_lss, b_leq, b_gtr, b_geq, Dn.setLast, Dn.getLast, evalO, mapO, Dn.get, putE, keepE_nil, keepE_cons, kp_some, kp_none, TV.one, TV.isAgg, Dn.part, negb, at0, at1, at2, at3, at4, dT, dF, wrapR_i64, Option.bind_some, Option.map_some, hlen, z2, z3, c29, bneT, bneF]
      · generalize elI.lt false (nI (movR r c b)) = ML at *
        exact ⟨_, by
          rw [l9_1, den_loop]
          simp (disch := omega) [b9_0, go_nil, go_last, go_past, go_pastR, go_blkN, go_blkR, go_blkE, go_skip, go_exit, go_ret, go_scope, go_seq, go_reg, go_regd, go_opdN, go_opd, go_opdG, grdd_b, grdd_u, stpd_some, find_some, go_block, go_cond, cnd_b, go_opsN, go_ops, go_opsG, grd_b, grd_u, stp_some, fin_some, up_some, cont_some, k_call, k_mv, k_pick, k_bin, k_eqB, k_eqA, k_not, k_neg, k_conv, k_alloc, k_boxA, k_boxI, k_boxB, k_boxN, k_boxBs, k_ldR, k_ldA, k_ldI, k_ldB, k_stA, k_stI, k_stB, ldC_some, stC_some, k_mkfn, k_slc, k_slcA, k_ixA, k_ixBs, k_ixSl, k_fadr, k_fld, k_ext, k_len, k_app, k_mn, k_mx, k_nilck, k_build, k_bsl1, k_bsl2, b_add, b_sub, b_mul, b_eql, b_neq, b_lss, b_leq, b_gtr, b_geq, Dn.setLast, Dn.getLast, evalO, mapO, Dn.get, putE, keepE_nil, keepE_cons, kp_some, kp_none, TV.one, TV.isAgg, Dn.part, negb, at0, at1, at2, at3, at4, dT, dF, wrapR_i64, Option.bind_some, Option.map_some, hlen]
          rfl, rfl⟩
    · exact (zd' z zd).elim

theorem l9_3_all {pg : Pg} {A ME MI : TV} {b : Int} {l : List Int} (hA : SV A l) (h64 : l.length ≤ 1000000) {H : Heap} : ∀ (d k : Nat) (f : Bool), k + d = l.length →
    ∃ e, den pg l9_3 [(8, .i .i64 b), (23, ME), (28, A), (29, MI), (30, .b f), (31, .i .i64 (k : Int))] H = some ⟨.exit 2, e, H⟩ ∧
      keepE [23, 29, 30] e = [(23, ME), (29, MI), (30, .b (f || (l.drop k).any fun x => x == b))]
  | 0, k, f, hd => by
    have hlen := fun K => (hA.view K).lenK K
    rw [List.drop_eq_nil_of_le (by omega)]
    exact ⟨_, by
      rw [l9_3, den_loop]
      simp (disch := omega) [b9_2, go_nil, go_last, go_past, go_pastR, go_blkN, go_blkR, go_blkE, go_skip, go_exit, go_ret, go_scope, go_seq, go_reg, go_regd, go_opdN, go_opd, go_opdG, grdd_b, grdd_u, stpd_some, find_some, go_block, go_cond, cnd_b, go_opsN, go_ops, go_opsG, grd_b, grd_u, stp_some, fin_some, up_some, cont_some, k_call, k_mv, k_pick, k_bin, k_eqB, k_eqA, k_not, k_neg, k_conv, k_alloc, k_boxA, k_boxI, k_boxB, k_boxN, k_boxBs, k_ldR, k_ldA, k_ldI, k_ldB, k_stA, k_stI, k_stB, ldC_some, stC_some, k_mkfn, k_slc, k_slcA, k_ixA, k_ixBs, k_ixSl, k_fadr, k_fld, k_ext, k_len, k_app, k_mn, k_mx, k_nilck, k_build, k_bsl1, k_bsl2, b_add, b_sub, b_mul, b_eql, b_neq, b_lss, b_leq, b_gtr, b_geq, Dn.setLast, Dn.getLast, evalO, mapO, Dn.get, putE, keepE_nil, keepE_cons, kp_some, kp_none, TV.one, TV.isAgg, Dn.part, negb, at0, at1, at2, at3, at4, dT, dF, wrapR_i64, Option.bind_some, Option.map_some, hlen]
      rfl, by cases f <;> rfl⟩
  | d + 1, k, f, hd => by
    have hlen := fun K => (hA.view K).lenK K
    have hx : l[k]? = some l[k] := List.getElem?_eq_getElem (by omega)
    obtain ⟨p, p1, p2⟩ := ixI (pg := pg) (R := den pg) (hA.view H) hx
    have hdr : l.drop k = l[k] :: l.drop (k + 1) := List.drop_eq_getElem_cons (by omega)
    rw [hdr, List.any_cons]
    generalize l[k] = x at *
    obtain ⟨e, e1, e2⟩ := l9_3_all (pg := pg) hA h64 (ME := ME) (MI := MI) (b := b) (H := H) d (k + 1) (f || x == b) (by omega)
    refine ⟨e, Eq.trans ?_ e1, by rw [e2, Bool.or_assoc]⟩
    rw [l9_3, den_loop]
    cases f <;> simp (disch := omega) [l9_3, b9_2, go_nil, go_last, go_past, go_pastR, go_blkN, go_blkR, go_blkE, go_skip, go_exit, go_ret, go_scope, go_seq, go_reg, go_regd, go_opdN, go_opd, go_opdG, grdd_b, grdd_u, stpd_some, find_some, go_block, go_cond, cnd_b, go_opsN, go_ops, go_opsG, grd_b, grd_u, stp_some, fin_some, up_some, cont_some, k_call, k_mv, k_pick, k_bin, k_eqB, k_eqA, k_not, k_neg, k_conv, k_alloc, k_boxA, k_boxI, k_boxB, k_boxN, k_boxBs, k_ldR, k_ldA, k_ldI, k_ldB, k_stA, k_stI, k_stB, ldC_some, stC_some, k_mkfn, k_slc, k_slcA, k_ixA, k_ixBs, k_ixSl, k_fadr, k_fld, k_ext, k_len, k_app, k_mn, k_mx, k_nilck, k_build, k_bsl1, k_bsl2, b_add, b_sub, b_mul, b_eql, b_neq, b_lss, b_leq, b_gtr, b_geq, Dn.setLast, Dn.getLast, evalO, mapO, Dn.get, putE, keepE_nil, keepE_cons, kp_some, kp_none, TV.one, TV.isAgg, Dn.part, negb, at0, at1, at2, at3, at4, dT, dF, wrapR_i64, Option.bind_some, Option.map_some, hlen, p1, p2]

/-- the squares within the distance hold the goal -/
theorem rd_has {r c a b m M : Nat} (h : Brd r c) (ha : a < r * c) (hb : b < r * c) (hd : Dst r c a b m) (hM : front r c a M = 0) : (nI (mem64 (rd r c a m M))).any (fun x => x == (b : Int)) = true := by
  have hmM : m < M := by
    apply Classical.byContradiction
    intro hc
    have hd' : (front r c a m).testBit b = true := hd
    rw [none_at h ha hb hM (fun j hj => by
      cases hj' : (front r c a j).testBit b with
      | false => rfl
      | true => have := front_uniq h ha hd hj'; omega) m] at hd'
    cases hd'
  have hbit := (rd_bit (q := m) M).2 ⟨m, hmM, Nat.le_refl _, hd⟩
  have h64 := lv64 h
  have hlt := rd_lt (q := m) h ha M
  rw [List.any_eq_true]
  exact ⟨(b : Int), List.mem_map.2 ⟨b, (mem_mem64 (by omega)).2 hbit, rfl⟩, by simp⟩

end Go.Proofs.Tryd.Dn

/-
  Knight: the law of distances, run: the end.
-/

namespace Go.Proofs.Tryd.Dn
open Go.Dn

set_option maxRecDepth 100000 in
set_option maxHeartbeats 4000000 in
theorem run9 {pg : Pg} (hF : Free pg) (h25 : PFn pg 25 [] (.b true)) (x y u v w : Int) : ∃ H, bodyRun pg (den pg) 9 [.i .i64 x, .i .i64 y, .agg [.i .i64 u, .i .i64 v, .i .i64 w]] [] = some (.b true, H) := by
  obtain ⟨r, c, h, c18⟩ := call18 hF x y
  have hn := h.n36
  have h1 : 1 ≤ r * c := Nat.mul_pos h.r1 h.c1
  obtain ⟨hcast, wn⟩ := rc_facts h
  obtain ⟨wa, a, a1, a2, a3, a4⟩ := conv_rem u h1 hn
  obtain ⟨wb, b, b1, b2, b3, b4⟩ := conv_rem v h1 hn
  obtain ⟨wd, d, d1, d2, d3, d4⟩ := conv_rem w h1 hn
  have un := wrap_un hn
  rw [hcast] at un a2 b2 d2
  have c25 := fun H => PFn.call h25 (args := []) (ks := []) (fs := []) (cs := []) (H := H) (by simp [snapArgs])
  obtain ⟨H0, hH0⟩ : ∃ H0 : Heap, H0 = [.cells [.i .i64 u, .i .i64 v, .i .i64 w] true] := ⟨_, rfl⟩
  have bx : dkc pg (den pg) (.box true) [.agg [.i .i64 u, .i .i64 v, .i .i64 w]] [] = some (.ref 0 0, H0) := by
    rw [k_boxA _ _ (by rfl), hH0]; rfl
  have x0 : dkc pg (den pg) (.ixA 3 1 false) [.ref 0 0, .i .i64 0] H0 = some (.ref 0 0, H0) := by rw [hH0]; rfl
  have x1 : dkc pg (den pg) (.ixA 3 1 false) [.ref 0 0, .i .i64 1] H0 = some (.ref 0 1, H0) := by rw [hH0]; rfl
  have x2 : dkc pg (den pg) (.ixA 3 1 false) [.ref 0 0, .i .i64 2] H0 = some (.ref 0 2, H0) := by rw [hH0]; rfl
  have y0 : dkc pg (den pg) (.ld 1 false) [.ref 0 0] H0 = some (.i .i64 u, H0) := by rw [hH0]; rfl
  have y1 : dkc pg (den pg) (.ld 1 false) [.ref 0 1] H0 = some (.i .i64 v, H0) := by rw [hH0]; rfl
  have y2 : dkc pg (den pg) (.ld 1 false) [.ref 0 2] H0 = some (.i .i64 w, H0) := by rw [hH0]; rfl
  have ne0 : ((0 : Int) != 0) = false := rfl
  refine ⟨H0, body_of (x := .ret) (e := [(6, .b true)]) (d := d9) (by rw [hF.F]; rfl) rfl ?_ (.inl rfl) rfl⟩
  rcases fn29' (pg := pg) hF h a3 b3 with ⟨m, ml, md, cab⟩ | ⟨md, cab⟩
  · rcases fn29' (pg := pg) hF h b3 a3 with ⟨m', ml', md', cba⟩ | ⟨md', cba⟩
    · have hm : m = m' := front_uniq h b3 (md.symm h a3 b3) md'
      subst hm
      have pf := md.parity h a3 b3
      have z0 := md.zero h a3 b3
      have hz : (((m : Int) == 0)) = ((a : Int) == (b : Int)) := by
        by_cases hab : a = b
        · rw [beqT (by omega), beqT (by omega)]
        · rw [beqF (by omega), beqF (by omega)]
      have mne : ((m : Int) != (m : Int)) = false := by simp
      have rm := tmod_nat m 2
      simp only [Int.cast_ofNat_Int] at rm
      have hpar : ((((m % 2 : Nat) : Int) == 0)) = ((colR c a : Int) == (colR c b : Int)) := by
        unfold colR
        by_cases hab : (a / c + a % c) % 2 = (b / c + b % c) % 2
        · rw [beqT (by omega), beqT (by omega)]
        · rw [beqF (by omega), beqF (by omega)]
      have f44a := fun K => PFn.at (fn44 (pg := pg) hF (c := c) (s := a) h.c1 (by omega)) (fun H => sa_I (sa_I sa_0)) K
      have f44b := fun K => PFn.at (fn44 (pg := pg) hF (c := c) (s := b) h.c1 (by omega)) (fun H => sa_I (sa_I sa_0)) K
      have c28 := PFn.at (fn28 hF h b3) (fun H => sa_I (sa_I (sa_I sa_0)))
      rw [movesOf_movR h b3] at c28
      obtain ⟨e1, k1, k2⟩ := l9_1_all (pg := pg) hF h a3 b3 md (ME := .i .i64 0) (H := H0) (movR r c b).length 0 (by omega)
      simp only [Int.natCast_zero] at k1
      have g0 := keep_get k2 (s := 0) (by simp) rfl
      have g1 := keep_get k2 (s := 1) (by simp) rfl
      have g7 := keep_get k2 (s := 7) (by simp) rfl
      have g8 := keep_get k2 (s := 8) (by simp) rfl
      have g10 := keep_get k2 (s := 10) (by simp) rfl
      have g23 := keep_get k2 (s := 23) (by simp) rfl
      have f42 := fn42 (pg := pg) hF h a3 (m : Int)
      rw [if_neg (by omega)] at f42
      obtain ⟨M, M1, M2⟩ := f42
      rw [Int.toNat_natCast] at M2
      have c42 := fun H => PFn.at M2 (fun H => sa_I (sa_I (sa_I (sa_I sa_0)))) H
      have hlM : (nI (mem64 (rd r c a m M))).length ≤ 1000000 := by rw [nI_len]; have := mem64_le (rd r c a m M); omega
      obtain ⟨e2, j1, j2⟩ := l9_3_all (pg := pg) (SV.lt false (nI (mem64 (rd r c a m M)))) hlM (b := (b : Int)) (ME := .i .i64 0) (MI := .i .i64 0) (H := H0) (nI (mem64 (rd r c a m M))).length 0 false (by omega)
      rw [List.drop_zero, rd_has h a3 b3 md M1, Bool.false_or] at j2
      simp only [Int.natCast_zero] at j1
      have i23 := keep_get j2 (s := 23) (by simp) rfl
      have i29 := keep_get j2 (s := 29) (by simp) rfl
      have i30 := keep_get j2 (s := 30) (by simp) rfl
      generalize elI.lt false (nI (mem64 (rd r c a m M))) = RR at *
      generalize elI.lt false (nI (movR r c b)) = LL at *
      generalize (colR c a : Int) = CA at *
      generalize (colR c b : Int) = CB at *
      generalize ((m % 2 : Nat) : Int) = MP at *
      have common := True.intro
      rcases fn29' (pg := pg) hF h a3 d3 with ⟨p, pl, pd, cad⟩ | ⟨pd, cad⟩ <;> rcases fn29' (pg := pg) hF h d3 b3 with ⟨q, ql, qd, cdb⟩ | ⟨qd, cdb⟩
      · have htri := md.tri h a3 b3 d3 pd qd
        simp (disch := omega) [d9, c9, zipE, go_nil, go_last, go_past, go_pastR, go_blkN, go_blkR, go_blkE, go_skip, go_exit, go_ret, go_scope, go_seq, go_reg, go_regd, go_opdN, go_opd, go_opdG, grdd_b, grdd_u, stpd_some, find_some, go_block, go_cond, cnd_b, go_opsN, go_ops, go_opsG, grd_b, grd_u, stp_some, fin_some, up_some, cont_some, k_call, k_mv, k_pick, k_bin, k_eqB, k_eqA, k_not, k_neg, k_conv, k_alloc, k_boxA, k_boxI, k_boxB, k_boxN, k_boxBs, k_ldR, k_ldA, k_ldI, k_ldB, k_stA, k_stI, k_stB, ldC_some, stC_some, k_mkfn, k_slc, k_slcA, k_ixA, k_ixBs, k_ixSl, k_fadr, k_fld, k_ext, k_len, k_app, k_mn, k_mx, k_nilck, k_build, k_bsl1, k_bsl2, b_add, b_sub, b_mul, b_eql, b_neq, b_lss, b_leq, b_gtr, b_geq, Dn.setLast, Dn.getLast, evalO, mapO, Dn.get, putE, keepE_nil, keepE_cons, kp_some, kp_none, TV.one, TV.isAgg, Dn.part, negb, at0, at1, at2, at3, at4, dT, dF, wrapR_i64, Option.bind_some, Option.map_some, bx, x0, x1, x2, y0, y1, y2, c18, wn, a1, a2, a4, b1, b2, b4, d1, d2, d4, un, cab, cba, cad, cdb, ne0, mne, hz, b_rem, rm, hpar, f44a, f44b, c28, go_denK (c := l9_1) rfl, k1, g0, g1, g7, g8, g10, g23, c42, go_denK (c := l9_3) rfl, j1, i23, i29, i30, c25]
      · simp (disch := omega) [d9, c9, zipE, go_nil, go_last, go_past, go_pastR, go_blkN, go_blkR, go_blkE, go_skip, go_exit, go_ret, go_scope, go_seq, go_reg, go_regd, go_opdN, go_opd, go_opdG, grdd_b, grdd_u, stpd_some, find_some, go_block, go_cond, cnd_b, go_opsN, go_ops, go_opsG, grd_b, grd_u, stp_some, fin_some, up_some, cont_some, k_call, k_mv, k_pick, k_bin, k_eqB, k_eqA, k_not, k_neg, k_conv, k_alloc, k_boxA, k_boxI, k_boxB, k_boxN, k_boxBs, k_ldR, k_ldA, k_ldI, k_ldB, k_stA, k_stI, k_stB, ldC_some, stC_some, k_mkfn, k_slc, k_slcA, k_ixA, k_ixBs, k_ixSl, k_fadr, k_fld, k_ext, k_len, k_app, k_mn, k_mx, k_nilck, k_build, k_bsl1, k_bsl2, b_add, b_sub, b_mul, b_eql, b_neq, b_lss, b_leq, b_gtr, b_geq, Dn.setLast, Dn.getLast, evalO, mapO, Dn.get, putE, keepE_nil, keepE_cons, kp_some, kp_none, TV.one, TV.isAgg, Dn.part, negb, at0, at1, at2, at3, at4, dT, dF, wrapR_i64, Option.bind_some, Option.map_some, bx, x0, x1, x2, y0, y1, y2, c18, wn, a1, a2, a4, b1, b2, b4, d1, d2, d4, un, cab, cba, cad, cdb, ne0, mne, hz, b_rem, rm, hpar, f44a, f44b, c28, go_denK (c := l9_1) rfl, k1, g0, g1, g7, g8, g10, g23, c42, go_denK (c := l9_3) rfl, j1, i23, i29, i30, c25]
      · simp (disch := omega) [d9, c9, zipE, go_nil, go_last, go_past, go_pastR, go_blkN, go_blkR, go_blkE, go_skip, go_exit, go_ret, go_scope, go_seq, go_reg, go_regd, go_opdN, go_opd, go_opdG, grdd_b, grdd_u, stpd_some, find_some, go_block, go_cond, cnd_b, go_opsN, go_ops, go_opsG, grd_b, grd_u, stp_some, fin_some, up_some, cont_some, k_call, k_mv, k_pick, k_bin, k_eqB, k_eqA, k_not, k_neg, k_conv, k_alloc, k_boxA, k_boxI, k_boxB, k_boxN, k_boxBs, k_ldR, k_ldA, k_ldI, k_ldB, k_stA, k_stI, k_stB, ldC_some, stC_some, k_mkfn, k_slc, k_slcA, k_ixA, k_ixBs, k_ixSl, k_fadr, k_fld, k_ext, k_len, k_app, k_mn, k_mx, k_nilck, k_build, k_bsl1, k_bsl2, b_add, b_sub, b_mul, b_eql, b_neq, b_lss, b_leq, b_gtr, b_geq, Dn.setLast, Dn.getLast, evalO, mapO, Dn.get, putE, keepE_nil, keepE_cons, kp_some, kp_none, TV.one, TV.isAgg, Dn.part, negb, at0, at1, at2, at3, at4, dT, dF, wrapR_i64, Option.bind_some, Option.map_some, bx, x0, x1, x2, y0, y1, y2, c18, wn, a1, a2, a4, b1, b2, b4, d1, d2, d4, un, cab, cba, cad, cdb, ne0, mne, hz, b_rem, rm, hpar, f44a, f44b, c28, go_denK (c := l9_1) rfl, k1, g0, g1, g7, g8, g10, g23, c42, go_denK (c := l9_3) rfl, j1, i23, i29, i30, c25]
      · simp (disch := omega) [d9, c9, zipE, go_nil, go_last, go_past, go_pastR, go_blkN, go_blkR, go_blkE, go_skip, go_exit, go_ret, go_scope, go_seq, go_reg, go_regd, go_opdN, go_opd, go_opdG, grdd_b, grdd_u, stpd_some, find_some, go_block, go_cond, cnd_b, go_opsN, go_ops, go_opsG, grd_b, grd_u, stp_some, fin_some, up_some, cont_some, k_call, k_mv, k_pick, k_bin, k_eqB, k_eqA, k_not, k_neg, k_conv, k_alloc, k_boxA, k_boxI, k_boxB, k_boxN, k_boxBs, k_ldR, k_ldA, k_ldI, k_ldB, k_stA, k_stI, k_stB, ldC_some, stC_some, k_mkfn, k_slc, k_slcA, k_ixA, k_ixBs, k_ixSl, k_fadr, k_fld, k_ext, k_len, k_app, k_mn, k_mx, k_nilck, k_build, k_bsl1, k_bsl2, b_add, b_sub, b_mul, b_eql, b_neq, b_lss, b_leq, b_gtr, b_geq, Dn.setLast, Dn.getLast, evalO, mapO, Dn.get, putE, keepE_nil, keepE_cons, kp_some, kp_none, TV.one, TV.isAgg, Dn.part, negb, at0, at1, at2, at3, at4, dT, dF, wrapR_i64, Option.bind_some, Option.map_some, bx, x0, x1, x2, y0, y1, y2, c18, wn, a1, a2, a4, b1, b2, b4, d1, d2, d4, un, cab, cba, cad, cdb, ne0, mne, hz, b_rem, rm, hpar, f44a, f44b, c28, go_denK (c := l9_1) rfl, k1, g0, g1, g7, g8, g10, g23, c42, go_denK (c := l9_3) rfl, j1, i23, i29, i30, c25]
    · exact (md' m (md.symm h a3 b3)).elim
  · rcases fn29' (pg := pg) hF h b3 a3 with ⟨m', ml', md', cba⟩ | ⟨md', cba⟩
    · exact (md m' (md'.symm h b3 a3)).elim
    · rcases fn29' (pg := pg) hF h a3 d3 with ⟨p, pl, pd, cad⟩ | ⟨pd, cad⟩ <;> rcases fn29' (pg := pg) hF h d3 b3 with ⟨q, ql, qd, cdb⟩ | ⟨qd, cdb⟩
      · obtain ⟨m, hm⟩ := Dst.some h a3 b3 d3 pd qd
        exact (md m hm).elim
      · simp (disch := omega) [d9, c9, zipE, go_nil, go_last, go_past, go_pastR, go_blkN, go_blkR, go_blkE, go_skip, go_exit, go_ret, go_scope, go_seq, go_reg, go_regd, go_opdN, go_opd, go_opdG, grdd_b, grdd_u, stpd_some, find_some, go_block, go_cond, cnd_b, go_opsN, go_ops, go_opsG, grd_b, grd_u, stp_some, fin_some, up_some, cont_some, k_call, k_mv, k_pick, k_bin, k_eqB, k_eqA, k_not, k_neg, k_conv, k_alloc, k_boxA, k_boxI, k_boxB, k_boxN, k_boxBs, k_ldR, k_ldA, k_ldI, k_ldB, k_stA, k_stI, k_stB, ldC_some, stC_some, k_mkfn, k_slc, k_slcA, k_ixA, k_ixBs, k_ixSl, k_fadr, k_fld, k_ext, k_len, k_app, k_mn, k_mx, k_nilck, k_build, k_bsl1, k_bsl2, b_add, b_sub, b_mul, b_eql, b_neq, b_lss, b_leq, b_gtr, b_geq, Dn.setLast, Dn.getLast, evalO, mapO, Dn.get, putE, keepE_nil, keepE_cons, kp_some, kp_none, TV.one, TV.isAgg, Dn.part, negb, at0, at1, at2, at3, at4, dT, dF, wrapR_i64, Option.bind_some, Option.map_some, bx, x0, x1, x2, y0, y1, y2, c18, wn, a1, a2, a4, b1, b2, b4, d1, d2, d4, un, cab, cba, cad, cdb, ne0, c25]
      · simp (disch := omega) [d9, c9, zipE, go_nil, go_last, go_past, go_pastR, go_blkN, go_blkR, go_blkE, go_skip, go_exit, go_ret, go_scope, go_seq, go_reg, go_regd, go_opdN, go_opd, go_opdG, grdd_b, grdd_u, stpd_some, find_some, go_block, go_cond, cnd_b, go_opsN, go_ops, go_opsG, grd_b, grd_u, stp_some, fin_some, up_some, cont_some, k_call, k_mv, k_pick, k_bin, k_eqB, k_eqA, k_not, k_neg, k_conv, k_alloc, k_boxA, k_boxI, k_boxB, k_boxN, k_boxBs, k_ldR, k_ldA, k_ldI, k_ldB, k_stA, k_stI, k_stB, ldC_some, stC_some, k_mkfn, k_slc, k_slcA, k_ixA, k_ixBs, k_ixSl, k_fadr, k_fld, k_ext, k_len, k_app, k_mn, k_mx, k_nilck, k_build, k_bsl1, k_bsl2, b_add, b_sub, b_mul, b_eql, b_neq, b_lss, b_leq, b_gtr, b_geq, Dn.setLast, Dn.getLast, evalO, mapO, Dn.get, putE, keepE_nil, keepE_cons, kp_some, kp_none, TV.one, TV.isAgg, Dn.part, negb, at0, at1, at2, at3, at4, dT, dF, wrapR_i64, Option.bind_some, Option.map_some, bx, x0, x1, x2, y0, y1, y2, c18, wn, a1, a2, a4, b1, b2, b4, d1, d2, d4, un, cab, cba, cad, cdb, ne0, c25]
      · simp (disch := omega) [d9, c9, zipE, go_nil, go_last, go_past, go_pastR, go_blkN, go_blkR, go_blkE, go_skip, go_exit, go_ret, go_scope, go_seq, go_reg, go_regd, go_opdN, go_opd, go_opdG, grdd_b, grdd_u, stpd_some, find_some, go_block, go_cond, cnd_b, go_opsN, go_ops, go_opsG, grd_b, grd_u, stp_some, fin_some, up_some, cont_some, k_call, k_mv, k_pick, k_bin, k_eqB, k_eqA, k_not, k_neg, k_conv, k_alloc, k_boxA, k_boxI, k_boxB, k_boxN, k_boxBs, k_ldR, k_ldA, k_ldI, k_ldB, k_stA, k_stI, k_stB, ldC_some, stC_some, k_mkfn, k_slc, k_slcA, k_ixA, k_ixBs, k_ixSl, k_fadr, k_fld, k_ext, k_len, k_app, k_mn, k_mx, k_nilck, k_build, k_bsl1, k_bsl2, b_add, b_sub, b_mul, b_eql, b_neq, b_lss, b_leq, b_gtr, b_geq, Dn.setLast, Dn.getLast, evalO, mapO, Dn.get, putE, keepE_nil, keepE_cons, kp_some, kp_none, TV.one, TV.isAgg, Dn.part, negb, at0, at1, at2, at3, at4, dT, dF, wrapR_i64, Option.bind_some, Option.map_some, bx, x0, x1, x2, y0, y1, y2, c18, wn, a1, a2, a4, b1, b2, b4, d1, d2, d4, un, cab, cba, cad, cdb, ne0, c25]

end Go.Proofs.Tryd.Dn

