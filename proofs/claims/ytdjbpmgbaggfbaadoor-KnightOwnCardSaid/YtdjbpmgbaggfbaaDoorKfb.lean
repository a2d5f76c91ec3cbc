/-
  Knight: the squares of a colour; a square paired, others moved.
-/
import Derived.Test.YtdjbpmgbaggfbaaDoorKfa
set_option linter.unusedSimpArgs false
set_option linter.unusedVariables false

namespace Go.Proofs.Tryd.Dn
open Go.Dn

/-! the squares of a colour -/
def colTo (c col : Nat) : Nat → Nat
  | 0 => 0
  | k + 1 => if colR c k = col then colTo c col k ||| 2 ^ k else colTo c col k
def colM (r c col : Nat) : Nat := colTo c col (r * c)

theorem colTo_lt (c col : Nat) : ∀ k, colTo c col k < 2 ^ k
  | 0 => by simp [colTo]
  | k + 1 => by
    have ih := colTo_lt c col k
    have h2 : 2 ^ k < 2 ^ (k + 1) := Nat.pow_lt_pow_right (by decide) (by omega)
    rw [colTo]
    split
    · exact or_lt (Nat.lt_trans ih h2) h2
    · exact Nat.lt_trans ih h2

theorem part_c (r c : Nat) : Dn.part 1 false 1 (bM r c) = some (.i .i64 (c : Int)) := part_one rfl rfl
theorem k_fadrC {pg : Pg} {R : Rec} (r c : Nat) (bo : Bool) (H : Heap) : dkc pg R (.fadr 1 1 false) [.bp bo (.agg (bM r c))] H = some (.bp bo (.i .i64 (c : Int)), H) := by
  have := part_c r c
  simp [dkc, dk, this]

theorem l69_all {pg : Pg} {r c col : Nat} {bo : Bool} (h : Brd r c) {H : Heap} : ∀ (d k : Nat), k + d = r * c →
    ∃ e, den pg l69_1 [(0, .bp bo (.agg (bM r c))), (1, .i .i64 (col : Int)), (5, .i .u64 (colTo c col k : Int)), (10, .i .i64 ((r * c : Nat) : Int)), (11, .i .i64 (k : Int))] H = some ⟨.exit 0, e, H⟩ ∧ Dn.get e 5 = some (.i .u64 (colM r c col : Int)) := by
  obtain ⟨BP, hBP⟩ : ∃ BP, BP = TV.bp bo (.agg (bM r c)) := ⟨_, rfl⟩
  have n1 : ∀ H, dkc pg (den pg) .nilck [BP] H = some (BP, H) := fun H => by rw [hBP]; exact k_nckB _ _ _
  have f1 : ∀ H, dkc pg (den pg) (.fadr 1 1 false) [BP] H = some (.bp bo (.i .i64 (c : Int)), H) := fun H => by rw [hBP]; exact k_fadrC _ _ _ _
  have hn := h.n36
  have h1n := lv64 h
  have c1 := h.c1
  rw [← hBP]
  intro d
  induction d with
  | zero =>
    intro k hd
    obtain rfl : k = r * c := by omega
    refine ⟨_, by
      rw [l69_1, den_loop]
      simp (disch := omega) [b69_0, go_nil, go_last, go_past, go_pastR, go_blkN, go_blkR, go_blkE, go_skip, go_exit, go_ret, go_scope, go_seq, go_reg, go_regd, go_opdN, go_opd, go_opdG, grdd_b, grdd_u, stpd_some, find_some, go_block, go_cond, cnd_b, go_opsN, go_ops, go_opsG, grd_b, grd_u, stp_some, fin_some, up_some, cont_some, k_call, k_mv, k_pick, k_bin, k_eqB, k_eqA, k_not, k_neg, k_conv, k_alloc, k_boxA, k_boxI, k_boxB, k_boxN, k_boxBs, k_ldR, k_ldA, k_ldI, k_ldB, k_stA, k_stI, k_stB, ldC_some, stC_some, k_mkfn, k_slc, k_slcA, k_ixA, k_ixBs, k_ixSl, k_fadr, k_fld, k_ext, k_len, k_app, k_mn, k_mx, k_nilck, k_build, k_bsl1, k_bsl2, b_add, b_sub, b_mul, b_eql, b_neq, b_lss, b_leq, b_gtr, b_geq, Dn.setLast, Dn.getLast, evalO, mapO, Dn.get, putE, keepE_nil, keepE_cons, kp_some, kp_none, TV.one, TV.isAgg, Dn.part, k_boxR, negb, at0, at1, at2, at3, at4, dT, dF, wrapR_i64, Option.bind_some, Option.map_some]
      rfl, rfl⟩
  | succ d ih =>
    intro k hd
    have hk : k < r * c := by omega
    have hlt : decide ((k : Int) < ((r * c : Nat) : Int)) = true := dT (by omega)
    obtain ⟨e, e1, e2⟩ := ih (k + 1) (by omega)
    have t1 := tdiv_nat k c
    have m1 := tmod_nat k c
    have d1 : k / c < 64 := Nat.lt_of_le_of_lt (Nat.div_le_self _ _) (by omega)
    have d3 : k % c < 64 := Nat.lt_of_le_of_lt (Nat.mod_le _ _) (by omega)
    have c0 : ¬ (c : Int) = 0 := by omega
    have c0' : ¬ c = 0 := by omega
    have hcol : colR c k = (k / c + k % c) % 2 := rfl
    have hto : colTo c col (k + 1) = if colR c k = col then colTo c col k ||| 2 ^ k else colTo c col k := rfl
    have hclt := colTo_lt c col k
    have h2k : 2 ^ k < 18446744073709551616 := Nat.lt_of_lt_of_le (Nat.pow_lt_pow_right (by decide) hk) h1n
    have o1 := or_uu (m := colTo c col k) (k := 2 ^ k) (by omega) h2k
    have sh := Dn.shl_u (k := .u64) (c := k) (by omega)
    have wk := wrap_u (m := k) (by omega)
    generalize k / c = x at *
    generalize k % c = z at *
    have w0 : wrapR .i64 (x : Int) = .i .i64 (x : Int) := wrapR_i64 (by omega)
    have w1 : wrapR .i64 ((x : Int) + (z : Int)) = .i .i64 ((x + z : Nat) : Int) := by rw [show (x : Int) + z = ((x + z : Nat) : Int) by omega]; exact wrapR_i64 (by omega)
    have m2 := tmod_nat (x + z) 2
    simp only [Int.cast_ofNat_Int] at m2
    rw [← hcol] at m2
    refine ⟨e, Eq.trans ?_ e1, e2⟩
    rw [hto]
    by_cases hq : colR c k = col
    · rw [if_pos hq]
      rw [hq] at m2
      generalize colTo c col k ||| 2 ^ k = V at *
      generalize 2 ^ k = U at *
      generalize ((x + z : Nat) : Int) = W at *
      generalize ((r * c : Nat) : Int) = N at *
      rw [l69_1, den_loop]
      simp (disch := omega) [l69_1, b69_0, go_nil, go_last, go_past, go_pastR, go_blkN, go_blkR, go_blkE, go_skip, go_exit, go_ret, go_scope, go_seq, go_reg, go_regd, go_opdN, go_opd, go_opdG, grdd_b, grdd_u, stpd_some, find_some, go_block, go_cond, cnd_b, go_opsN, go_ops, go_opsG, grd_b, grd_u, stp_some, fin_some, up_some, cont_some, k_call, k_mv, k_pick, k_bin, k_eqB, k_eqA, k_not, k_neg, k_conv, k_alloc, k_boxA, k_boxI, k_boxB, k_boxN, k_boxBs, k_ldR, k_ldA, k_ldI, k_ldB, k_stA, k_stI, k_stB, ldC_some, stC_some, k_mkfn, k_slc, k_slcA, k_ixA, k_ixBs, k_ixSl, k_fadr, k_fld, k_ext, k_len, k_app, k_mn, k_mx, k_nilck, k_build, k_bsl1, k_bsl2, b_add, b_sub, b_mul, b_eql, b_neq, b_lss, b_leq, b_gtr, b_geq, Dn.setLast, Dn.getLast, evalO, mapO, Dn.get, putE, keepE_nil, keepE_cons, kp_some, kp_none, TV.one, TV.isAgg, Dn.part, k_boxR, negb, at0, at1, at2, at3, at4, dT, dF, wrapR_i64, Option.bind_some, Option.map_some, hlt, n1, f1, b_quo, b_rem, c0, c0', t1, m1, w0, w1, m2, wk, sh, o1]
    · rw [if_neg hq]
      have hne : (((colR c k : Nat) : Int) == (col : Int)) = false := beqF (by omega)
      generalize ((x + z : Nat) : Int) = W at *
      generalize ((colR c k : Nat) : Int) = Y at *
      generalize ((r * c : Nat) : Int) = N at *
      rw [l69_1, den_loop]
      simp (disch := omega) [l69_1, b69_0, go_nil, go_last, go_past, go_pastR, go_blkN, go_blkR, go_blkE, go_skip, go_exit, go_ret, go_scope, go_seq, go_reg, go_regd, go_opdN, go_opd, go_opdG, grdd_b, grdd_u, stpd_some, find_some, go_block, go_cond, cnd_b, go_opsN, go_ops, go_opsG, grd_b, grd_u, stp_some, fin_some, up_some, cont_some, k_call, k_mv, k_pick, k_bin, k_eqB, k_eqA, k_not, k_neg, k_conv, k_alloc, k_boxA, k_boxI, k_boxB, k_boxN, k_boxBs, k_ldR, k_ldA, k_ldI, k_ldB, k_stA, k_stI, k_stB, ldC_some, stC_some, k_mkfn, k_slc, k_slcA, k_ixA, k_ixBs, k_ixSl, k_fadr, k_fld, k_ext, k_len, k_app, k_mn, k_mx, k_nilck, k_build, k_bsl1, k_bsl2, b_add, b_sub, b_mul, b_eql, b_neq, b_lss, b_leq, b_gtr, b_geq, Dn.setLast, Dn.getLast, evalO, mapO, Dn.get, putE, keepE_nil, keepE_cons, kp_some, kp_none, TV.one, TV.isAgg, Dn.part, k_boxR, negb, at0, at1, at2, at3, at4, dT, dF, wrapR_i64, Option.bind_some, Option.map_some, hlt, n1, f1, b_quo, b_rem, c0, c0', t1, m1, w0, w1, m2, hne]

theorem fn69 {pg : Pg} (hF : Free pg) {r c col : Nat} {bo : Bool} (h : Brd r c) : PFn pg 69 [.bp bo (.agg (bM r c)), .i .i64 (col : Int)] (.i .u64 (colM r c col : Int)) := by
  have n1 := k_nckB (pg := pg) (R := den pg) (.agg (bM r c)) bo []
  have f2 := k_fadrN (pg := pg) (R := den pg) r c bo []
  obtain ⟨e, e1, e2⟩ := l69_all (pg := pg) (col := col) (bo := bo) (H := []) h (r * c) 0 (by omega)
  simp only [Int.natCast_zero] at e1
  have h0 : ((colTo c col 0 : Nat) : Int) = 0 := rfl
  rw [h0] at e1
  refine .inr ⟨hF.S _ _ (by decide), .i .u64 (colM r c col : Int), [], body_of (x := .ret) (e := [(4, .i .u64 (colM r c col : Int))]) (d := d69) (by rw [hF.F]; rfl) rfl ?_ (.inl rfl) rfl, sn_i _ _ _ _⟩
  generalize (colM r c col : Int) = V at *
  generalize TV.agg (bM r c) = BM at *
  generalize ((r * c : Nat) : Int) = N at *
  simp [d69, c69, zipE, go_nil, go_last, go_past, go_pastR, go_blkN, go_blkR, go_blkE, go_skip, go_exit, go_ret, go_scope, go_seq, go_reg, go_regd, go_opdN, go_opd, go_opdG, grdd_b, grdd_u, stpd_some, find_some, go_block, go_cond, cnd_b, go_opsN, go_ops, go_opsG, grd_b, grd_u, stp_some, fin_some, up_some, cont_some, k_call, k_mv, k_pick, k_bin, k_eqB, k_eqA, k_not, k_neg, k_conv, k_alloc, k_boxA, k_boxI, k_boxB, k_boxN, k_boxBs, k_ldR, k_ldA, k_ldI, k_ldB, k_stA, k_stI, k_stB, ldC_some, stC_some, k_mkfn, k_slc, k_slcA, k_ixA, k_ixBs, k_ixSl, k_fadr, k_fld, k_ext, k_len, k_app, k_mn, k_mx, k_nilck, k_build, k_bsl1, k_bsl2, b_add, b_sub, b_mul, b_eql, b_neq, b_lss, b_leq, b_gtr, b_geq, Dn.setLast, Dn.getLast, evalO, mapO, Dn.get, putE, keepE, TV.one, TV.isAgg, Dn.part, n1, f2, go_denK (c := l69_1) rfl, e1, e2]

theorem Bv.call69 {pg : Pg} (hF : Free pg) {r c col : Nat} {H : Heap} {BV : TV} (hb : Bv r c H BV) (h : Brd r c) : callRun pg (den pg) (.pu []) [.fn 69 [] [], BV, .i .i64 (col : Int)] H = some (.i .u64 (colM r c col : Int), H) := by
  unfold Bv at hb
  exact PFn.call (fn69 hF (bo := true) h) (args := [BV, .i .i64 (col : Int)]) (by simp [snapArgs, sn_i, hb])

theorem colM_lt (r c col : Nat) : colM r c col < 2 ^ (r * c) := colTo_lt c col _

/-! a board, by value or in memory -/
def BOk (r c : Nat) (H : Heap) (BV : TV) : Prop := (∃ bo, BV = .bp bo (.agg (bM r c))) ∨ ∃ id, BV = .ref id 0 ∧ H[id]? = some (.cells (bM r c) true)

theorem BOk.bv {r c : Nat} {H : Heap} {BV : TV} (h : BOk r c H BV) : Bv r c H BV := by
  rcases h with ⟨bo, rfl⟩ | ⟨id, rfl, h⟩
  · exact Bv.bp r c H bo
  · exact Bv.ref h

theorem BOk.one {r c : Nat} {H : Heap} {BV : TV} (h : BOk r c H BV) : BV.one = true ∧ BV.isAgg = false := by
  rcases h with ⟨bo, rfl⟩ | ⟨id, rfl, h⟩ <;> exact ⟨rfl, rfl⟩

theorem BOk.mono {r c : Nat} {H H' : Heap} {BV : TV} (h : BOk r c H BV) (hf : ∀ id, BV = .ref id 0 → H'[id]? = H[id]?) : BOk r c H' BV := by
  rcases h with ⟨bo, rfl⟩ | ⟨id, rfl, h⟩
  · exact .inl ⟨bo, rfl⟩
  · exact .inr ⟨id, rfl, by rw [hf id rfl]; exact h⟩

theorem bd_facts {pg : Pg} {r c : Nat} (h : Brd r c) {BV : TV} {H0 : Heap} (h0 : BOk r c H0 BV) : ∃ (MB : TV) (QB : Nat → TV), ∀ H, BOk r c H BV →
    dkc pg (den pg) .nilck [BV] H = some (BV, H) ∧ dkc pg (den pg) (.fadr 3 36 true) [BV] H = some (MB, H) ∧ ∀ s, s < r * c → dkc pg (den pg) (.ixA 36 1 false) [MB, .i .i64 (s : Int)] H = some (QB s, H) ∧ dkc pg (den pg) (.ld 1 false) [QB s] H = some (.i .u64 (mv r c s : Int), H) := by
  have hn := h.n36
  rcases h0 with ⟨bo, rfl⟩ | ⟨id, rfl, _⟩
  · exact ⟨.bp bo (.agg (masks r c)), fun s => .bp bo (.i .u64 (mv r c s : Int)), fun H _ => ⟨k_nckB _ _ _, k_fadrB _ _ _ _, fun s hs => ⟨k_ixAM h hs bo .i64 H, rfl⟩⟩⟩
  · refine ⟨.ref id 3, fun s => .ref id (3 + s), fun H hb => ⟨rfl, rfl, fun s hs => ⟨ix_m (by omega) H, ?_⟩⟩⟩
    rcases hb with ⟨bo, hb⟩ | ⟨id', hid, hb⟩
    · cases hb
    · cases hid
      have hm : mvTo r c (r * c) s = mv r c s := by unfold mvTo; rw [if_pos hs]
      have := ld_m (pg := pg) (R := den pg) hb (s := s) (by omega)
      rw [hm] at this
      exact this

/-! a pairing in memory -/
def pC (BV : TV) (M : List Int) (tr : Nat) : List TV := BV :: (M.map fun x => .i .i64 x) ++ [.i .u64 (tr : Int)]

theorem pC_len {BV : TV} {M : List Int} {tr : Nat} : (pC BV M tr).length = M.length + 2 := by simp [pC]
theorem pC_b {BV : TV} {M : List Int} {tr : Nat} : (pC BV M tr)[0]? = some BV := rfl
theorem pC_m {BV : TV} {M : List Int} {tr t : Nat} {x : Int} (h : M[t]? = some x) : (pC BV M tr)[1 + t]? = some (.i .i64 x) := by
  have ht := (List.getElem?_eq_some_iff.1 h).1
  rw [show 1 + t = t + 1 by omega]
  simp only [pC, List.cons_append, List.getElem?_cons_succ]
  rw [List.getElem?_append_left (by simpa using ht), List.getElem?_map, h]
  rfl
theorem pC_t {BV : TV} {M : List Int} {tr : Nat} (h : M.length = 36) : (pC BV M tr)[37]? = some (.i .u64 (tr : Int)) := by
  simp only [pC, List.cons_append, List.getElem?_cons_succ]
  rw [List.getElem?_append_right (by simp [h])]
  simp [h]
theorem pC_putM {BV : TV} {M : List Int} {tr t : Nat} (h : t < M.length) (v : Int) : put2 (pC BV M tr) (1 + t) [.i .i64 v] = pC BV (M.set t v) tr := by
  rw [El.put2_set _ (by rw [pC_len]; omega), show 1 + t = t + 1 by omega]
  simp only [pC, List.cons_append, List.set_cons_succ]
  rw [List.set_append_left _ _ (by simpa using h), List.map_set]
theorem pC_putT {BV : TV} {M : List Int} {tr : Nat} (h : M.length = 36) (v : Nat) : put2 (pC BV M tr) 37 [.i .u64 (v : Int)] = pC BV M v := by
  rw [El.put2_set _ (by rw [pC_len]; omega)]
  simp only [pC, List.cons_append, List.set_cons_succ]
  rw [List.set_append_right _ _ (by simp [h])]
  simp [h]

section
variable {pg : Pg} {R : Rec} {BV : TV} {M : List Int} {tr P : Nat} {H : Heap}
theorem ld_pB (h : H[P]? = some (.cells (pC BV M tr) true)) (hb : BV.isAgg = false) : dkc pg R (.ld 1 false) [.ref P 0] H = some (BV, H) := by
  rw [k_ldR, h, ldC_some, part_one pC_b hb]; rfl
theorem ld_pM (h : H[P]? = some (.cells (pC BV M tr) true)) {t : Nat} {x : Int} (hx : M[t]? = some x) : dkc pg R (.ld 1 false) [.ref P (1 + t)] H = some (.i .i64 x, H) := by
  rw [k_ldR, h, ldC_some, part_one (pC_m hx) rfl]; rfl
theorem ld_pT (h : H[P]? = some (.cells (pC BV M tr) true)) (hl : M.length = 36) : dkc pg R (.ld 1 false) [.ref P 37] H = some (.i .u64 (tr : Int), H) := by
  rw [k_ldR, h, ldC_some, part_one (pC_t hl) rfl]; rfl
theorem st_pM (h : H[P]? = some (.cells (pC BV M tr) true)) {t : Nat} (ht : t < M.length) (v : Int) : dkc pg R (.st 1) [.ref P (1 + t), .i .i64 v] H = some (.undef, H.set P (.cells (pC BV (M.set t v) tr) true)) := by
  rw [k_stI, h, stC_some, if_pos ⟨rfl, rfl, by rw [pC_len]; omega⟩, pC_putM ht v]
theorem st_pT (h : H[P]? = some (.cells (pC BV M tr) true)) (hl : M.length = 36) (v : Nat) : dkc pg R (.st 1) [.ref P 37, .i .u64 (v : Int)] H = some (.undef, H.set P (.cells (pC BV M v) true)) := by
  rw [k_stI, h, stC_some, if_pos ⟨rfl, rfl, by rw [pC_len]; omega⟩, pC_putT hl v]
theorem ix_p {t : Nat} (ht : t < 36) (k : IntKind) : dkc pg R (.ixA 36 1 false) [.ref P 1, .i k (t : Int)] H = some (.ref P (1 + t), H) := by
  rw [k_ixA _ _ _ _ _ _ _ _ (by omega) (by omega)]; simp
end

/-! pairing a square, in plain terms -/
def growL (g : List Int → Nat → Nat → Bool × List Int × Nat) (s : Nat) : List Nat → List Int → Nat → Bool × List Int × Nat
  | [], M, tr => (false, M, tr)
  | t :: ts, M, tr =>
    if tr.testBit t then growL g s ts M tr
    else if M.getD t 0 < 0 then (true, (M.set s t).set t s, tr ||| 2 ^ t)
    else
      let o := g M (tr ||| 2 ^ t) (M.getD t 0).toNat
      if o.1 then (true, (o.2.1.set s t).set t s, o.2.2) else growL g s ts o.2.1 o.2.2

def grow (r c : Nat) : Nat → List Int → Nat → Nat → Bool × List Int × Nat
  | 0, M, tr, _ => (false, M, tr)
  | f + 1, M, tr, s => growL (grow r c f) s (movesOf r c s) M tr

def untr (n tr : Nat) : Nat := (List.range n).countP fun t => !tr.testBit t

theorem untr_or {n tr t : Nat} (ht : t < n) (hb : tr.testBit t = false) : untr n (tr ||| 2 ^ t) + 1 ≤ untr n tr := by
  unfold untr
  refine cnt_lt (fun x hx hp => ?_) ⟨t, List.mem_range.2 ht, by rw [hb]; rfl, by rw [Nat.testBit_or, Nat.testBit_two_pow, dT rfl]; simp⟩
  rw [Nat.testBit_or] at hp
  cases h : tr.testBit x
  · rfl
  · rw [h] at hp; simp at hp

def MOk (n : Nat) (M : List Int) : Prop := M.length = 36 ∧ ∀ t, t < 36 → M.getD t 0 < (n : Int)

theorem MOk.set {n : Nat} {M : List Int} (h : MOk n M) {i v : Nat} (hi : i < 36) (hv : v < n) : MOk n (M.set i (v : Int)) := by
  refine ⟨by simpa using h.1, fun t ht => ?_⟩
  rw [getD_set (by rw [h.1]; exact hi)]
  split
  · omega
  · exact h.2 t ht

structure GOk (n tr : Nat) (o : Bool × List Int × Nat) : Prop where
  m : MOk n o.2.1
  lt : o.2.2 < 2 ^ n
  un : untr n o.2.2 ≤ untr n tr

theorem growL_ok {r c n s : Nat} (hn : n ≤ 36) (hs : s < n) {g : List Int → Nat → Nat → Bool × List Int × Nat} (hg : ∀ M tr t, MOk n M → tr < 2 ^ n → t < n → GOk n tr (g M tr t)) : ∀ (ts : List Nat) (M : List Int) (tr : Nat), (∀ t, t ∈ ts → t < n) → MOk n M → tr < 2 ^ n → GOk n tr (growL g s ts M tr)
  | [], M, tr, hts, hM, htr => ⟨hM, htr, Nat.le_refl _⟩
  | t :: ts, M, tr, hts, hM, htr => by
    have ht := hts t (by simp)
    have hts' : ∀ x, x ∈ ts → x < n := fun x hx => hts x (by simp [hx])
    rw [growL]
    split
    · exact growL_ok (r := r) (c := c) hn hs hg ts M tr hts' hM htr
    · rename_i hb
      have hb' : tr.testBit t = false := by simpa using hb
      have hun := untr_or ht hb'
      have hlt : tr ||| 2 ^ t < 2 ^ n := or_lt htr (Nat.pow_lt_pow_right (by decide) ht)
      split
      · exact ⟨(hM.set (by omega) ht).set (by omega) hs, hlt, Nat.le_trans (Nat.le_succ _) hun⟩
      · rename_i hneg
        have hmt := hM.2 t (by omega)
        have ho := hg M (tr ||| 2 ^ t) (M.getD t 0).toNat hM hlt (by omega)
        simp only
        split
        · exact ⟨(ho.m.set (by omega) ht).set (by omega) hs, ho.lt, Nat.le_trans ho.un (by omega)⟩
        · have ih := growL_ok (r := r) (c := c) hn hs hg ts _ _ hts' ho.m ho.lt
          exact ⟨ih.m, ih.lt, Nat.le_trans ih.un (Nat.le_trans ho.un (by omega))⟩

theorem grow_ok {r c : Nat} (h : Brd r c) : ∀ (f : Nat) (M : List Int) (tr s : Nat), MOk (r * c) M → tr < 2 ^ (r * c) → s < r * c → GOk (r * c) tr (grow r c f M tr s)
  | 0, M, tr, s, hM, htr, hs => ⟨hM, htr, Nat.le_refl _⟩
  | f + 1, M, tr, s, hM, htr, hs => by
    rw [grow]
    exact growL_ok (r := r) (c := c) h.n36 hs (fun M tr t h1 h2 h3 => grow_ok h f M tr t h1 h2 h3) _ M tr (fun t ht => moves_in h hs ht) hM htr

end Go.Proofs.Tryd.Dn

/-
  Knight: a square paired, in the program.
-/

namespace Go.Proofs.Tryd.Dn
open Go.Dn

structure GS (r c A P lp : Nat) (BV : TV) (s : Nat) (H0 H : Heap) (M : List Int) (tr : Nat) (res : Bool) : Prop where
  p : H[P]? = some (.cells (pC BV M tr) true)
  a0 : H[A]? = some (.cells [.ref P 0] false)
  a1 : H[A + 1]? = some (.cells [.i .i64 (s : Int)] false)
  a2 : H[A + 2]? = some (.cells [.b res] false)
  len : lp < H.length
  old : ∀ j, j < A → j ≠ P → H[j]? = H0[j]?
  mok : MOk (r * c) M
  lt : tr < 2 ^ (r * c)

theorem GS.set {r c A P lp : Nat} {BV : TV} {s : Nat} {H0 H : Heap} {M : List Int} {tr : Nat} {res : Bool} (h : GS r c A P lp BV s H0 H M tr res) (hP : P < A) {j : Nat} (hj : A + 3 ≤ j) (o : AObj) : GS r c A P lp BV s H0 (H.set j o) M tr res :=
  ⟨by rw [List.getElem?_set_ne (by omega)]; exact h.p, by rw [List.getElem?_set_ne (by omega)]; exact h.a0, by rw [List.getElem?_set_ne (by omega)]; exact h.a1, by rw [List.getElem?_set_ne (by omega)]; exact h.a2, by simpa using h.len,
    fun k hk hne => by rw [List.getElem?_set_ne (by omega)]; exact h.old k hk hne, h.mok, h.lt⟩

theorem GS.setP {r c A P lp : Nat} {BV : TV} {s : Nat} {H0 H : Heap} {M M' : List Int} {tr tr' : Nat} {res : Bool} (h : GS r c A P lp BV s H0 H M tr res) (hP : P < A) (hM : MOk (r * c) M') (ht : tr' < 2 ^ (r * c)) : GS r c A P lp BV s H0 (H.set P (.cells (pC BV M' tr') true)) M' tr' res :=
  ⟨by rw [List.getElem?_set_self (by have := (List.getElem?_eq_some_iff.1 h.p).1; exact this)], by rw [List.getElem?_set_ne (by omega)]; exact h.a0, by rw [List.getElem?_set_ne (by omega)]; exact h.a1, by rw [List.getElem?_set_ne (by omega)]; exact h.a2, by simpa using h.len,
    fun k hk hne => by rw [List.getElem?_set_ne (by omega)]; exact h.old k hk hne, hM, ht⟩

def GrowOk (pg : Pg) (r c P : Nat) (BV : TV) (f : Nat) : Prop :=
  ∀ (H : Heap) (M : List Int) (tr s : Nat), H[P]? = some (.cells (pC BV M tr) true) → BOk r c H BV → MOk (r * c) M → tr < 2 ^ (r * c) → s < r * c → untr (r * c) tr < f →
    ∃ H', bodyRun pg (den pg) 96 [.ref P 0, .i .i64 (s : Int)] H = some (.b (grow r c f M tr s).1, H') ∧ H'[P]? = some (.cells (pC BV (grow r c f M tr s).2.1 (grow r c f M tr s).2.2) true) ∧ H.length ≤ H'.length ∧ ∀ j, j < H.length → j ≠ P → H'[j]? = H[j]?

theorem set_cell {H : Heap} {i : Nat} {o : AObj} (h : H[i]? = some o) : H.set i o = H := by
  apply List.ext_getElem?
  intro j
  by_cases hj : j = i
  · subst hj
    rw [List.getElem?_set_self (List.getElem?_eq_some_iff.1 h).1, h]
  · rw [List.getElem?_set_ne (by omega)]

theorem grow_swap {pg : Pg} {r c A P lp s t : Nat} {BV : TV} {H0 H : Heap} {M : List Int} {tr : Nat} (hP : P < A) (hlp : lp = A + 4) (hs : s < r * c) (ht : t < r * c) (g : GS r c A P lp BV s H0 H M tr false) {lo : AObj} (hl : H[lp]? = some lo) (hn : r * c ≤ 36 := by omega) :
    ∃ H3 H4 H5, dkc pg (den pg) (.st 1) [.ref P (1 + s), .i .i64 (t : Int)] H = some (.undef, H3) ∧ dkc pg (den pg) (.st 1) [.ref P (1 + t), .i .i64 (s : Int)] H3 = some (.undef, H4) ∧ dkc pg (den pg) (.st 1) [.ref (A + 2) 0, .b true] H4 = some (.undef, H5) ∧
      dk (.ld 1 false) [.ref A 0] H = some (.ref P 0, H) ∧ dk (.ld 1 false) [.ref (A + 1) 0] H = some (.i .i64 (s : Int), H) ∧ dk (.ld 1 false) [.ref A 0] H3 = some (.ref P 0, H3) ∧ dk (.ld 1 false) [.ref (A + 1) 0] H3 = some (.i .i64 (s : Int), H3) ∧
      GS r c A P lp BV s H0 H5 ((M.set s t).set t s) tr true ∧ H5[lp]? = some lo := by
  have g3 := g.setP hP (g.mok.set (i := s) (v := t) (by omega) ht) g.lt
  have g4 := g3.setP hP ((g.mok.set (i := s) (v := t) (by omega) ht).set (i := t) (v := s) (by omega) hs) g3.lt
  have hml := g.mok.1
  have s1 := st_pM (pg := pg) (R := den pg) g.p (t := s) (by omega) (t : Int)
  have s2 := st_pM (pg := pg) (R := den pg) g3.p (t := t) (by simp [hml]; omega) (s : Int)
  have s3 := st_box (pg := pg) (R := den pg) (v := .b true) g4.a2 rfl
  have hAl := (List.getElem?_eq_some_iff.1 g4.a2).1
  refine ⟨_, _, _, s1, s2, s3, ld_box (pg := pg) (R := den pg) g.a0 rfl, ld_box (pg := pg) (R := den pg) g.a1 rfl, ld_box (pg := pg) (R := den pg) g3.a0 rfl, ld_box (pg := pg) (R := den pg) g3.a1 rfl, ⟨?_, ?_, ?_, ?_, ?_, ?_, g4.mok, g4.lt⟩, ?_⟩
  · rw [List.getElem?_set_ne (by omega)]; exact g4.p
  · rw [List.getElem?_set_ne (by omega)]; exact g4.a0
  · rw [List.getElem?_set_ne (by omega)]; exact g4.a1
  · rw [List.getElem?_set_self hAl]
  · simpa using g4.len
  · intro j hj hne; rw [List.getElem?_set_ne (by omega)]; exact g4.old j hj hne
  · rw [List.getElem?_set_ne (by omega), List.getElem?_set_ne (by omega), List.getElem?_set_ne (by omega)]; exact hl

theorem grow_round {pg : Pg} (hF : Free pg) {r c P f A lp s : Nat} {BV : TV} (h : Brd r c) (hs : s < r * c) (hP : P < A) (hlp : lp = A + 4) {H0 : Heap} (hB0 : BOk r c H0 BV) (hBP : ∀ id, BV = .ref id 0 → id ≠ P ∧ id < A) (ih : GrowOk pg r c P BV f)
    {L : ALoop} {e : Env} (hL : L = lp1 a96_0 b96_1 16 [2, 3, 4] e) (he : keepE [2, 3, 4] e = [(2, .ref A 0), (3, .ref (A + 1) 0), (4, .ref (A + 2) 0)]) {o : Bool × List Int × Nat} :
    Rnd pg lp (A + 3) L (fun l H => ∃ M tr, GS r c A P lp BV s H0 H M tr false ∧ (∀ t, t ∈ l → t < r * c) ∧ growL (grow r c f) s l M tr = o ∧ untr (r * c) tr < f + 1)
      (fun x H => x = .ret ∧ o.1 = true ∧ GS r c A P lp BV s H0 H o.2.1 o.2.2 true) := by
  rintro t rest H ⟨M, tr, hS, hts, ho, hun⟩ hlpc hk
  have hn := h.n36
  have h1n := lv64 h
  have ht := hts t (by simp)
  have hts' : ∀ x, x ∈ rest → x < r * c := fun x hx => hts x (by simp [hx])
  have hml := hS.mok.1
  obtain ⟨HB, hHB⟩ : ∃ HB, HB = H.set lp (.loop { L with st := .busy }) := ⟨_, rfl⟩
  have pB : GS r c A P lp BV s H0 HB M tr false := by rw [hHB]; exact hS.set hP (by omega) _
  have hlB : HB[lp]? = some (.loop { L with st := .busy }) := by rw [hHB, List.getElem?_set_self hS.len]
  have hsB : HB[A + 3]? = H[A + 3]? := by rw [hHB, List.getElem?_set_ne (by omega)]
  have hLe : L.env = [(2, .ref A 0), (3, .ref (A + 1) 0), (4, .ref (A + 2) 0)] := by rw [hL]; exact he
  have hLa : L.assign = a96_0 := by rw [hL]; rfl
  have hLb : L.body = b96_1 := by rw [hL]; rfl
  have hLp : L.params = [16] := by rw [hL]; rfl
  have ha1 : den pg L.assign ((L.params.zip [.i .i64 (t : Int)]).reverse ++ L.env) H = some ⟨.normal, [(2, .ref A 0), (3, .ref (A + 1) 0), (4, .ref (A + 2) 0), (5, .i .i64 (t : Int))], H⟩ := by
    rw [hLe, hLa, hLp, den_eq, runC_go]
    simp [a96_0, go_nil, go_last, go_past, go_pastR, go_blkN, go_blkR, go_blkE, go_skip, go_exit, go_ret, go_scope, go_seq, go_reg, go_regd, go_opdN, go_opd, go_opdG, grdd_b, grdd_u, stpd_some, find_some, go_block, go_cond, cnd_b, go_opsN, go_ops, go_opsG, grd_b, grd_u, stp_some, fin_some, up_some, cont_some, k_call, k_mv, k_pick, k_bin, k_eqB, k_eqA, k_not, k_neg, k_conv, k_alloc, k_boxA, k_boxI, k_boxB, k_boxN, k_boxBs, k_ldR, k_ldA, k_ldI, k_ldB, k_stA, k_stI, k_stB, ldC_some, stC_some, k_mkfn, k_slc, k_slcA, k_ixA, k_ixBs, k_ixSl, k_fadr, k_fld, k_ext, k_len, k_app, k_mn, k_mx, k_nilck, k_build, k_bsl1, k_bsl2, b_add, b_sub, b_mul, b_eql, b_neq, b_lss, b_leq, b_gtr, b_geq, Dn.setLast, Dn.getLast, evalO, mapO, Dn.get, putE, keepE, TV.one, TV.isAgg, Dn.part]
  have l0 := ld_box (pg := pg) (R := den pg) pB.a0 rfl
  have l1 := ld_box (pg := pg) (R := den pg) pB.a1 rfl
  have lt := ld_pT (pg := pg) (R := den pg) pB.p hml
  have wt := wrap_u (m := t) (by omega)
  have htr := pB.lt
  obtain ⟨td, b1, b2⟩ := bit_and (m := tr) (c := t) (by omega) (by omega)
  have fd : ∀ (K : Heap) (o sz : Nat) (ag : Bool), dkc pg (den pg) (.fadr o sz ag) [.ref P 0] K = some (.ref P o, K) := fun K o sz ag => by rw [k_fadr]; simp
  rw [growL] at ho
  cases hb : tr.testBit t with
  | true =>
    rw [hb] at b2 ho
    simp only [if_true] at b2 ho
    have hbd : den pg L.body [(2, .ref A 0), (3, .ref (A + 1) 0), (4, .ref (A + 2) 0), (5, .i .i64 (t : Int))] HB = some ⟨.normal, [(2, .ref A 0), (3, .ref (A + 1) 0), (4, .ref (A + 2) 0), (5, .i .i64 (t : Int)), (25, .b true)], HB⟩ := by
      rw [hLb, den_eq, runC_go]
      simp (disch := omega) [b96_1, go_nil, go_last, go_past, go_pastR, go_blkN, go_blkR, go_blkE, go_skip, go_exit, go_ret, go_scope, go_seq, go_reg, go_regd, go_opdN, go_opd, go_opdG, grdd_b, grdd_u, stpd_some, find_some, go_block, go_cond, cnd_b, go_opsN, go_ops, go_opsG, grd_b, grd_u, stp_some, fin_some, up_some, cont_some, k_call, k_mv, k_pick, k_bin, k_eqB, k_eqA, k_not, k_neg, k_conv, k_alloc, k_boxA, k_boxI, k_boxB, k_boxN, k_boxBs, k_ldR, k_ldA, k_ldI, k_ldB, k_stA, k_stI, k_stB, ldC_some, stC_some, k_mkfn, k_slc, k_slcA, k_ixA, k_ixBs, k_ixSl, k_fadr, k_fld, k_ext, k_len, k_app, k_mn, k_mx, k_nilck, k_build, k_bsl1, k_bsl2, b_add, b_sub, b_mul, b_eql, b_neq, b_lss, b_leq, b_gtr, b_geq, Dn.setLast, Dn.getLast, evalO, mapO, Dn.get, putE, keepE_nil, keepE_cons, kp_some, kp_none, TV.one, TV.isAgg, Dn.part, k_boxR, negb, at0, at1, at2, at3, at4, dT, dF, wrapR_i64, Option.bind_some, Option.map_some, l0, fd, lt, wt, b1, b2]
    refine .inl ⟨HB.set lp (.loop L), Body.of ha1 hlpc (by rw [← hHB]; exact hbd) hlB, ⟨M, tr, pB.set hP (by omega) _, hts', ho, hun⟩, ?_⟩
    rw [List.getElem?_set_ne (by omega)]; exact hsB
  | false =>
    rw [hb] at b2 ho
    simp only [Bool.false_eq_true, if_false] at b2 ho
    have h2t : 2 ^ t < 2 ^ (r * c) := Nat.pow_lt_pow_right (by decide) ht
    have o1 := or_uu (m := tr) (k := 2 ^ t) (by omega) (by omega)
    have sh := Dn.shl_u (k := .u64) (c := t) (by omega)
    have htr' : tr ||| 2 ^ t < 2 ^ (r * c) := or_lt htr h2t
    have hun' := untr_or ht hb
    have stT := st_pT (pg := pg) (R := den pg) pB.p hml (tr ||| 2 ^ t)
    obtain ⟨H1, hH1⟩ : ∃ H1, H1 = HB.set P (.cells (pC BV M (tr ||| 2 ^ t)) true) := ⟨_, rfl⟩
    rw [← hH1] at stT
    have p1 : GS r c A P lp BV s H0 H1 M (tr ||| 2 ^ t) false := by rw [hH1]; exact pB.setP hP pB.mok htr'
    have hl1 : H1[lp]? = some (.loop { L with st := .busy }) := by rw [hH1, List.getElem?_set_ne (by omega)]; exact hlB
    have hs1 : H1[A + 3]? = H[A + 3]? := by rw [hH1, List.getElem?_set_ne (by omega)]; exact hsB
    have m0 := ld_box (pg := pg) (R := den pg) p1.a0 rfl
    have m1 := ld_box (pg := pg) (R := den pg) p1.a1 rfl
    have hmt : M[t]? = some (M.getD t 0) := getD_some (by omega)
    have ixt := fun K => ix_p (pg := pg) (R := den pg) (P := P) (H := K) (t := t) (by omega) .i64
    have ixs := fun K => ix_p (pg := pg) (R := den pg) (P := P) (H := K) (t := s) (by omega) .i64
    have lm := ld_pM (pg := pg) (R := den pg) p1.p hmt
    have hmb := hS.mok.2 t (by omega)
    by_cases hneg : M.getD t 0 < 0
    · rw [if_pos hneg] at ho
      obtain ⟨H3, H4, H5, s1, s2, s3, s4, s5, s6, s7, s8, s9⟩ := grow_swap (pg := pg) hP (by omega) hs ht p1 hl1
      have hbd : den pg L.body [(2, .ref A 0), (3, .ref (A + 1) 0), (4, .ref (A + 2) 0), (5, .i .i64 (t : Int))] HB = some ⟨.ret, [], H5⟩ := by
        rw [hLb, den_eq, runC_go]
        generalize tr ||| 2 ^ t = V at *
        generalize 2 ^ t = U at *
        generalize M.getD t 0 = Y at *
        simp (disch := omega) [b96_1, go_nil, go_last, go_past, go_pastR, go_blkN, go_blkR, go_blkE, go_skip, go_exit, go_ret, go_scope, go_seq, go_reg, go_regd, go_opdN, go_opd, go_opdG, grdd_b, grdd_u, stpd_some, find_some, go_block, go_cond, cnd_b, go_opsN, go_ops, go_opsG, grd_b, grd_u, stp_some, fin_some, up_some, cont_some, k_call, k_mv, k_pick, k_bin, k_eqB, k_eqA, k_not, k_neg, k_conv, k_alloc, k_boxA, k_boxI, k_boxB, k_boxN, k_boxBs, k_ldR, k_ldA, k_ldI, k_ldB, k_stA, k_stI, k_stB, ldC_some, stC_some, k_mkfn, k_slc, k_slcA, k_ixA, k_ixBs, k_ixSl, k_fadr, k_fld, k_ext, k_len, k_app, k_mn, k_mx, k_nilck, k_build, k_bsl1, k_bsl2, b_add, b_sub, b_mul, b_eql, b_neq, b_lss, b_leq, b_gtr, b_geq, Dn.setLast, Dn.getLast, evalO, mapO, Dn.get, putE, keepE_nil, keepE_cons, kp_some, kp_none, TV.one, TV.isAgg, Dn.part, k_boxR, negb, at0, at1, at2, at3, at4, dT, dF, wrapR_i64, Option.bind_some, Option.map_some, l0, fd, lt, wt, b1, b2, sh, o1, stT, m0, m1, ixt, ixs, lm, s1, s2, s3]
        simp [frOk, ldSame, Dn.same, guardRun, DK.isLd, evalO, mapO, Dn.get, s4, s5, s6, s7]
      subst ho
      refine .inr ⟨.ret, H5.set lp (.loop L), by simp, Body.of ha1 hlpc (by rw [← hHB]; exact hbd) s9, rfl, rfl, s8.set hP (by omega) _⟩
    · rw [if_neg hneg] at ho
      obtain ⟨m, hm⟩ : ∃ m : Nat, M.getD t 0 = (m : Int) := ⟨(M.getD t 0).toNat, by omega⟩
      rw [hm] at lm hmb ho hneg
      rw [Int.toNat_natCast] at ho
      have hBO : BOk r c H1 BV := hB0.mono fun id hid => by
        obtain ⟨h1, h2⟩ := hBP id hid
        rw [p1.old id h2 h1]
      obtain ⟨H', g1, g2, g3, g4⟩ := ih H1 M (tr ||| 2 ^ t) m p1.p hBO hS.mok htr' (by omega) (by omega)
      have gk := grow_ok h f M (tr ||| 2 ^ t) m hS.mok htr' (by omega)
      generalize grow r c f M (tr ||| 2 ^ t) m = oo at *
      obtain ⟨ok, M2, tr2⟩ := oo
      have hl1' := p1.len
      have pS : GS r c A P lp BV s H0 H' M2 tr2 false := ⟨g2, by rw [g4 A (by omega) (by omega)]; exact p1.a0, by rw [g4 (A + 1) (by omega) (by omega)]; exact p1.a1, by rw [g4 (A + 2) (by omega) (by omega)]; exact p1.a2, by omega,
        fun j hj hne => by rw [g4 j (by omega) hne]; exact p1.old j hj hne, gk.m, gk.lt⟩
      have hl' : H'[lp]? = some (.loop { L with st := .busy }) := by rw [g4 lp (by omega) (by omega)]; exact hl1
      have hs' : H'[A + 3]? = H[A + 3]? := by rw [g4 (A + 3) (by omega) (by omega)]; exact hs1
      have g1' : callRun pg (den pg) .sh [.fn 96 [] [], .ref P 0, .i .i64 (m : Int)] H1 = some (.b ok, H') := by rw [sh_fn]; exact g1
      simp only at ho
      cases ok with
      | true =>
        simp only [if_true] at ho
        obtain ⟨H3, H4, H5, s1, s2, s3, s4, s5, s6, s7, s8, s9⟩ := grow_swap (pg := pg) hP (by omega) hs ht pS hl'
        have n0 := ld_box (pg := pg) (R := den pg) pS.a0 rfl
        have n1 := ld_box (pg := pg) (R := den pg) pS.a1 rfl
        have hbd : den pg L.body [(2, .ref A 0), (3, .ref (A + 1) 0), (4, .ref (A + 2) 0), (5, .i .i64 (t : Int))] HB = some ⟨.ret, [], H5⟩ := by
          rw [hLb, den_eq, runC_go]
          generalize tr ||| 2 ^ t = V at *
          generalize 2 ^ t = U at *
          simp (disch := omega) [b96_1, go_nil, go_last, go_past, go_pastR, go_blkN, go_blkR, go_blkE, go_skip, go_exit, go_ret, go_scope, go_seq, go_reg, go_regd, go_opdN, go_opd, go_opdG, grdd_b, grdd_u, stpd_some, find_some, go_block, go_cond, cnd_b, go_opsN, go_ops, go_opsG, grd_b, grd_u, stp_some, fin_some, up_some, cont_some, k_call, k_mv, k_pick, k_bin, k_eqB, k_eqA, k_not, k_neg, k_conv, k_alloc, k_boxA, k_boxI, k_boxB, k_boxN, k_boxBs, k_ldR, k_ldA, k_ldI, k_ldB, k_stA, k_stI, k_stB, ldC_some, stC_some, k_mkfn, k_slc, k_slcA, k_ixA, k_ixBs, k_ixSl, k_fadr, k_fld, k_ext, k_len, k_app, k_mn, k_mx, k_nilck, k_build, k_bsl1, k_bsl2, b_add, b_sub, b_mul, b_eql, b_neq, b_lss, b_leq, b_gtr, b_geq, Dn.setLast, Dn.getLast, evalO, mapO, Dn.get, putE, keepE_nil, keepE_cons, kp_some, kp_none, TV.one, TV.isAgg, Dn.part, k_boxR, negb, at0, at1, at2, at3, at4, dT, dF, wrapR_i64, Option.bind_some, Option.map_some, l0, fd, lt, wt, b1, b2, sh, o1, stT, m0, m1, ixt, ixs, lm, g1', n0, n1, s1, s2, s3]
          simp [frOk, ldSame, Dn.same, guardRun, DK.isLd, evalO, mapO, Dn.get, s4, s5, s6, s7]
        subst ho
        refine .inr ⟨.ret, H5.set lp (.loop L), by simp, Body.of ha1 hlpc (by rw [← hHB]; exact hbd) s9, rfl, rfl, s8.set hP (by omega) _⟩
      | false =>
        simp only [Bool.false_eq_true, if_false] at ho
        have hbd : den pg L.body [(2, .ref A 0), (3, .ref (A + 1) 0), (4, .ref (A + 2) 0), (5, .i .i64 (t : Int))] HB = some ⟨.normal, [(2, .ref A 0), (3, .ref (A + 1) 0), (4, .ref (A + 2) 0), (5, .i .i64 (t : Int)), (52, .b false)], H'⟩ := by
          rw [hLb, den_eq, runC_go]
          generalize tr ||| 2 ^ t = V at *
          generalize 2 ^ t = U at *
          simp (disch := omega) [b96_1, go_nil, go_last, go_past, go_pastR, go_blkN, go_blkR, go_blkE, go_skip, go_exit, go_ret, go_scope, go_seq, go_reg, go_regd, go_opdN, go_opd, go_opdG, grdd_b, grdd_u, stpd_some, find_some, go_block, go_cond, cnd_b, go_opsN, go_ops, go_opsG, grd_b, grd_u, stp_some, fin_some, up_some, cont_some, k_call, k_mv, k_pick, k_bin, k_eqB, k_eqA, k_not, k_neg, k_conv, k_alloc, k_boxA, k_boxI, k_boxB, k_boxN, k_boxBs, k_ldR, k_ldA, k_ldI, k_ldB, k_stA, k_stI, k_stB, ldC_some, stC_some, k_mkfn, k_slc, k_slcA, k_ixA, k_ixBs, k_ixSl, k_fadr, k_fld, k_ext, k_len, k_app, k_mn, k_mx, k_nilck, k_build, k_bsl1, k_bsl2, b_add, b_sub, b_mul, b_eql, b_neq, b_lss, b_leq, b_gtr, b_geq, Dn.setLast, Dn.getLast, evalO, mapO, Dn.get, putE, keepE_nil, keepE_cons, kp_some, kp_none, TV.one, TV.isAgg, Dn.part, k_boxR, negb, at0, at1, at2, at3, at4, dT, dF, wrapR_i64, Option.bind_some, Option.map_some, l0, fd, lt, wt, b1, b2, sh, o1, stT, m0, m1, ixt, ixs, lm, g1']
        refine .inl ⟨H'.set lp (.loop L), Body.of ha1 hlpc (by rw [← hHB]; exact hbd) hl', ⟨M2, tr2, pS.set hP (by omega) _, hts', ho, ?_⟩, ?_⟩
        · have := gk.un
          simp only at this
          omega
        · rw [List.getElem?_set_ne (by omega)]; exact hs'

theorem body96 {pg : Pg} (hF : Free pg) {r c P : Nat} {BV : TV} (h : Brd r c) (hBP : ∀ id, BV = .ref id 0 → id ≠ P) : ∀ f, GrowOk pg r c P BV f
  | 0 => fun H M tr s _ _ _ _ _ hu => by omega
  | f + 1 => fun H M tr s hp hB hM htr hs hu => by
    have ih := body96 hF h hBP f
    have hn := h.n36
    have h1n := lv64 h
    have hPl := (List.getElem?_eq_some_iff.1 hp).1
    obtain ⟨A, hA⟩ : ∃ A, A = H.length := ⟨_, rfl⟩
    obtain ⟨H1, hH1⟩ : ∃ H1 : Heap, H1 = H ++ [.cells [.ref P 0] false] := ⟨_, rfl⟩
    obtain ⟨H2, hH2⟩ : ∃ H2 : Heap, H2 = H1 ++ [.cells [.i .i64 (s : Int)] false] := ⟨_, rfl⟩
    obtain ⟨H3, hH3⟩ : ∃ H3 : Heap, H3 = H2 ++ [.cells [.b false] false] := ⟨_, rfl⟩
    obtain ⟨H4, hH4⟩ : ∃ H4 : Heap, H4 = H3 ++ [.cells [.i .u64 (mv r c s : Int)] false] := ⟨_, rfl⟩
    have l1 : H1.length = A + 1 := by rw [hH1, hA]; simp
    have l2 : H2.length = A + 2 := by rw [hH2]; simp [l1]
    have l3 : H3.length = A + 3 := by rw [hH3]; simp [l2]
    have l4 : H4.length = A + 4 := by rw [hH4]; simp [l3]
    have k43 : ∀ j, j < A + 3 → H4[j]? = H3[j]? := fun j hj => by rw [hH4, List.getElem?_append_left (by omega)]
    have k32 : ∀ j, j < A + 2 → H3[j]? = H2[j]? := fun j hj => by rw [hH3, List.getElem?_append_left (by omega)]
    have k21 : ∀ j, j < A + 1 → H2[j]? = H1[j]? := fun j hj => by rw [hH2, List.getElem?_append_left (by omega)]
    have k10 : ∀ j, j < A → H1[j]? = H[j]? := fun j hj => by rw [hH1, List.getElem?_append_left (by omega)]
    have k30 : ∀ j, j < A → H3[j]? = H[j]? := fun j hj => by rw [k32 j (by omega), k21 j (by omega), k10 j hj]
    have a0 : H3[A]? = some (.cells [.ref P 0] false) := by rw [k32 A (by omega), k21 A (by omega), hH1, hA]; exact getLast _ _
    have a1 : H3[A + 1]? = some (.cells [.i .i64 (s : Int)] false) := by rw [k32 (A + 1) (by omega), hH2, ← l1]; exact getLast _ _
    have a2 : H3[A + 2]? = some (.cells [.b false] false) := by rw [hH3, ← l2]; exact getLast _ _
    have hp3 : H3[P]? = some (.cells (pC BV M tr) true) := by rw [k30 P (by omega)]; exact hp
    obtain ⟨MB, QB, hbd⟩ := bd_facts (pg := pg) h hB
    have hB3 : BOk r c H3 BV := hB.mono fun id hid => by
      rcases hB with ⟨bo, hb⟩ | ⟨id', hb, hb2⟩
      · rw [hb] at hid; cases hid
      · rw [hb] at hid; cases hid
        exact k30 _ (by have := (List.getElem?_eq_some_iff.1 hb2).1; omega)
    have hBid : ∀ id, BV = .ref id 0 → id ≠ P ∧ id < A := fun id hid => ⟨hBP id hid, by
      rcases hB with ⟨bo, hb⟩ | ⟨id', hb, hb2⟩
      · rw [hb] at hid; cases hid
      · rw [hb] at hid; cases hid
        have := (List.getElem?_eq_some_iff.1 hb2).1; omega⟩
    obtain ⟨n1, f3, ixl⟩ := hbd H3 hB3
    obtain ⟨ix, lb⟩ := ixl s hs
    have d0 := ld_box (pg := pg) (R := den pg) a0 rfl
    have d1 := ld_box (pg := pg) (R := den pg) a1 rfl
    have dB := ld_pB (pg := pg) (R := den pg) hp3 hB.one.2
    have hmv := mv_bound h hs
    have b63 := body63 (pg := pg) hF (mv r c s) H3
    rw [← hH4, l3] at b63
    obtain ⟨L, hL⟩ : ∃ L, L = lp1 a96_0 b96_1 16 [2, 3, 4] [(2, .ref A 0), (3, .ref (A + 1) 0), (4, .ref (A + 2) 0), (15, .fn 93 [] [.ref (A + 3) 0])] := ⟨_, rfl⟩
    have hkeep : keepE [2, 3, 4] ([(2, .ref A 0), (3, .ref (A + 1) 0), (4, .ref (A + 2) 0), (15, .fn 93 [] [.ref (A + 3) 0])] : Env) = [(2, .ref A 0), (3, .ref (A + 1) 0), (4, .ref (A + 2) 0)] := rfl
    have kl : ∀ j, j < A + 4 → (H4 ++ [.loop L])[j]? = H4[j]? := fun j hj => by rw [List.getElem?_append_left (by omega)]
    have hG0 : GS r c A P (A + 4) BV s H (H4 ++ [.loop L]) M tr false := ⟨by rw [kl P (by omega), k43 P (by omega)]; exact hp3, by rw [kl A (by omega), k43 A (by omega)]; exact a0, by rw [kl (A + 1) (by omega), k43 (A + 1) (by omega)]; exact a1, by rw [kl (A + 2) (by omega), k43 (A + 2) (by omega)]; exact a2, by simp [l4],
      fun j hj _ => by rw [kl j (by omega), k43 j (by omega)]; exact k30 j hj, hM, htr⟩
    have hgr : grow r c (f + 1) M tr s = growL (grow r c f) s (movesOf r c s) M tr := rfl
    rw [hgr]
    obtain ⟨o, ho⟩ : ∃ o, growL (grow r c f) s (movesOf r c s) M tr = o := ⟨_, rfl⟩
    rw [ho]
    have hset : ∀ l K cc, (∃ M tr, GS r c A P (A + 4) BV s H K M tr false ∧ (∀ t, t ∈ l → t < r * c) ∧ growL (grow r c f) s l M tr = o ∧ untr (r * c) tr < f + 1) → ∃ M tr, GS r c A P (A + 4) BV s H (K.set (A + 3) cc) M tr false ∧ (∀ t, t ∈ l → t < r * c) ∧ growL (grow r c f) s l M tr = o ∧ untr (r * c) tr < f + 1 :=
      fun l K cc ⟨M, tr, g1, g2, g3, g4⟩ => ⟨M, tr, g1.set (by omega) (by omega) _, g2, g3, g4⟩
    have ap : ∀ x, H ++ ([x] : Heap) = H ++ [x] := fun _ => rfl
    have s1 : stC H3[A + 2]? 1 (A + 2) 0 [.b false] H3 = some (.undef, H3) := by
      rw [a2, stC_some, if_pos ⟨rfl, rfl, by simp⟩]
      congr 2
      have := set_cell a2
      exact this
    rcases rng hF (f := 15) (s := A + 3) (p := 16) (as_ := a96_0) (bd := b96_1) (ks := [2, 3, 4]) (e := [(2, .ref A 0), (3, .ref (A + 1) 0), (4, .ref (A + 2) 0), (15, .fn 93 [] [.ref (A + 3) 0])]) (H := H4) (x := mv r c s) rfl (by rw [hH4, ← l3]; exact getLast _ _) (by omega)
        (P := fun l K => ∃ M tr, GS r c A P (A + 4) BV s H K M tr false ∧ (∀ t, t ∈ l → t < r * c) ∧ growL (grow r c f) s l M tr = o ∧ untr (r * c) tr < f + 1)
        (Q := fun x K => x = .ret ∧ o.1 = true ∧ GS r c A P (A + 4) BV s H K o.2.1 o.2.2 true) (by rw [← hL]; exact ⟨M, tr, hG0, fun t ht => moves_in h hs ht, ho, hu⟩) hset (by rw [l4, ← hL]; exact grow_round hF h hs (by omega) rfl hB hBid ih hL rfl) with ⟨H5, r1, M', tr', g1, _, g3, _⟩ | ⟨x, H5, hx, r1, rfl, g1, g2⟩
    · rw [l4, ← hL, hkeep] at r1
      have g3' : (false, M', tr') = o := g3
      subst g3'
      obtain ⟨H6, hH6⟩ : ∃ H6, H6 = H5.set (A + 4) (.loop { L with st := .exhausted }) := ⟨_, rfl⟩
      rw [← hH6] at r1
      have g6 : GS r c A P (A + 4) BV s H H6 M' tr' false := by rw [hH6]; exact g1.set (by omega) (by omega) _
      have st2 := st_box (pg := pg) (R := den pg) (v := .b false) g6.a2 rfl
      have hsame := set_cell g6.a2
      rw [hsame] at st2
      have lres := ld_box (pg := pg) (R := den pg) g6.a2 rfl
      have hl6 := g6.len
      refine ⟨H6, body_ofs (x := .ret) (e := [(4, .ref (A + 2) 0)]) (vs := [.b false]) (d := d96) (by rw [hF.F]; rfl) rfl ?_ (.inl rfl) ?_, g6.p, by omega, fun j hj hne => g6.old j (by omega) hne⟩
      · simp (disch := omega) [d96, c96, zipE, go_nil, go_last, go_past, go_pastR, go_blkN, go_blkR, go_blkE, go_skip, go_exit, go_ret, go_scope, go_seq, go_reg, go_regd, go_opdN, go_opd, go_opdG, grdd_b, grdd_u, stpd_some, find_some, go_block, go_cond, cnd_b, go_opsN, go_ops, go_opsG, grd_b, grd_u, stp_some, fin_some, up_some, cont_some, k_call, k_mv, k_pick, k_bin, k_eqB, k_eqA, k_not, k_neg, k_conv, k_alloc, k_boxA, k_boxI, k_boxB, k_boxN, k_boxBs, k_ldR, k_ldA, k_ldI, k_ldB, k_stA, k_stI, k_stB, ldC_some, stC_some, k_mkfn, k_slc, k_slcA, k_ixA, k_ixBs, k_ixSl, k_fadr, k_fld, k_ext, k_len, k_app, k_mn, k_mx, k_nilck, k_build, k_bsl1, k_bsl2, b_add, b_sub, b_mul, b_eql, b_neq, b_lss, b_leq, b_gtr, b_geq, Dn.setLast, Dn.getLast, evalO, mapO, Dn.get, putE, keepE_nil, keepE_cons, kp_some, kp_none, TV.one, TV.isAgg, Dn.part, k_boxR, negb, at0, at1, at2, at3, at4, dT, dF, wrapR_i64, Option.bind_some, Option.map_some, ← hA, ← hH1, l1, ← hH2, l2, ← hH3, d0, d1, dB, n1, f3, ix, lb, sh_fn, b63, r1, st2]
      · simp only [d96, mapO, resRun, Dn.get, if_true, Option.bind_some]
        have : dk (.ld 1 false) [.ref (A + 2) 0] H6 = some (.b false, H6) := lres
        rw [this]; rfl
    · rw [l4, ← hL, hkeep] at r1
      obtain ⟨ok, M', tr'⟩ := o
      have g1' : ok = true := g1
      subst g1'
      obtain ⟨H6, hH6⟩ : ∃ H6, H6 = H5.set (A + 4) (.loop { L with st := .exhausted, pend := some .ret }) := ⟨_, rfl⟩
      rw [← hH6] at r1
      have g6 : GS r c A P (A + 4) BV s H H6 M' tr' true := by rw [hH6]; exact g2.set (by omega) (by omega) _
      have lres := ld_box (pg := pg) (R := den pg) g6.a2 rfl
      have hl6 := g6.len
      refine ⟨H6, body_ofs (x := .ret) (e := [(2, .ref A 0), (3, .ref (A + 1) 0), (4, .ref (A + 2) 0)]) (vs := [.b true]) (d := d96) (by rw [hF.F]; rfl) rfl ?_ (.inl rfl) ?_, g6.p, by omega, fun j hj hne => g6.old j (by omega) hne⟩
      · simp (disch := omega) [d96, c96, zipE, go_nil, go_last, go_past, go_pastR, go_blkN, go_blkR, go_blkE, go_skip, go_exit, go_ret, go_scope, go_seq, go_reg, go_regd, go_opdN, go_opd, go_opdG, grdd_b, grdd_u, stpd_some, find_some, go_block, go_cond, cnd_b, go_opsN, go_ops, go_opsG, grd_b, grd_u, stp_some, fin_some, up_some, cont_some, k_call, k_mv, k_pick, k_bin, k_eqB, k_eqA, k_not, k_neg, k_conv, k_alloc, k_boxA, k_boxI, k_boxB, k_boxN, k_boxBs, k_ldR, k_ldA, k_ldI, k_ldB, k_stA, k_stI, k_stB, ldC_some, stC_some, k_mkfn, k_slc, k_slcA, k_ixA, k_ixBs, k_ixSl, k_fadr, k_fld, k_ext, k_len, k_app, k_mn, k_mx, k_nilck, k_build, k_bsl1, k_bsl2, b_add, b_sub, b_mul, b_eql, b_neq, b_lss, b_leq, b_gtr, b_geq, Dn.setLast, Dn.getLast, evalO, mapO, Dn.get, putE, keepE_nil, keepE_cons, kp_some, kp_none, TV.one, TV.isAgg, Dn.part, k_boxR, negb, at0, at1, at2, at3, at4, dT, dF, wrapR_i64, Option.bind_some, Option.map_some, ← hA, ← hH1, l1, ← hH2, l2, ← hH3, d0, d1, dB, n1, f3, ix, lb, sh_fn, b63, r1]
      · simp only [d96, mapO, resRun, Dn.get, Nat.reduceEqDiff, if_false, if_true, Option.bind_some]
        have : dk (.ld 1 false) [.ref (A + 2) 0] H6 = some (.b true, H6) := lres
        rw [this]; rfl

end Go.Proofs.Tryd.Dn

