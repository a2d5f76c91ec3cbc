/-
  Shares in lowest terms; both indices.
-/
import Derived.Test.YtgmlmmgpcbollaaDoorQh
set_option linter.unusedSimpArgs false
set_option linter.unusedVariables false

namespace Go.Proofs.Tryd.Dn
open Go.Dn

theorem Market.pos {X : List Obs} {g : Nat} (h : Market X g) {i k : Nat} (hi : i < X.length) (hk : k < X.length) : 1 ≤ costOf X i k := by
  obtain ⟨a1, a2, a3, a4, a5⟩ := okObs_iff.1 (h.ok X[i] (List.getElem_mem hi))
  obtain ⟨b1, b2, b3, b4, b5⟩ := okObs_iff.1 (h.ok X[k] (List.getElem_mem hk))
  simp only [costOf, List.getElem?_eq_getElem hi, List.getElem?_eq_getElem hk, Option.map_some, Option.getD_some]
  exact dot_pos a1 b2 a3 b4 b5

/-- the costs, as natural numbers -/
def cN (X : List Obs) (i k : Nat) : Nat := (costOf X i k).toNat
theorem Market.cN {X : List Obs} {g : Nat} (h : Market X g) {i k : Nat} (hi : i < X.length) (hk : k < X.length) : costOf X i k = (cN X i k : Int) ∧ 1 ≤ Tryd.Dn.cN X i k ∧ Tryd.Dn.cN X i k ≤ 1200 := by
  have h1 := h.pos hi hk
  have h2 := h.cost hi hk
  unfold Tryd.Dn.cN
  omega

theorem rem_nat {x y : Nat} (hy : 0 < y) : binI .rem (.i .i64 (x : Int)) (.i .i64 (y : Int)) = some (.i .i64 ((x % y : Nat) : Int)) := by
  rw [b_rem, if_neg (by omega), Int.tmod_eq_emod_of_nonneg (by omega)]
  simp
theorem quo_nat {x y : Nat} (hy : 0 < y) (hx : x ≤ 1000000) : binI .quo (.i .i64 (x : Int)) (.i .i64 (y : Int)) = some (.i .i64 ((x / y : Nat) : Int)) := by
  have h0 : ¬ (y : Int) = 0 := by omega
  have h1 : x / y ≤ x := Nat.div_le_self _ _
  have h2' : ∀ z : Nat, z ≤ x → wrapR .i64 (z : Int) = .i .i64 (z : Int) := fun z hz => wrapR_i64 (by omega)
  have h2 := h2' _ h1
  have h3 : (x : Int).tdiv (y : Int) = ((x / y : Nat) : Int) := by rw [Int.tdiv_eq_ediv_of_nonneg (by omega)]; simp
  simp only [binI, if_neg h0, h3, h2]
  simp

theorem l54_all {pg : Pg} {a b : TV} {H : Heap} : ∀ (m x y : Nat), y ≤ m → ∃ e, den pg l54_1 [(1, a), (2, b), (3, .i .i64 (x : Int)), (4, .i .i64 (y : Int))] H = some ⟨.exit 0, e, H⟩ ∧ Dn.get e 1 = some a ∧ Dn.get e 2 = some b ∧ Dn.get e 3 = some (.i .i64 ((Nat.gcd x y : Nat) : Int))
  | m, x, 0, h => by
    refine ⟨[(1, a), (2, b), (3, .i .i64 (x : Int)), (4, .i .i64 0), (10, .b false)], ?_, rfl, rfl, by rw [Nat.gcd_zero_right]; rfl⟩
    rw [l54_1, den_loop]
    simp [b54_0, go_nil, go_last, go_past, go_pastR, go_blkN, go_blkR, go_blkE, go_skip, go_exit, go_ret, go_scope, go_seq, go_reg, go_block, go_cond, cnd_b, go_opsN, go_ops, go_opsG, grd_b, grd_u, stp_some, fin_some, up_some, cont_some, k_call, k_mv, k_pick, k_bin, k_eqB, k_eqA, k_not, k_neg, k_conv, k_alloc, k_boxA, k_boxI, k_boxB, k_boxN, k_boxBs, k_ldR, k_ldA, k_ldI, k_ldB, k_stA, k_stI, k_stB, ldC_some, stC_some, k_mkfn, k_slc, k_slcA, k_ixA, k_ixBs, k_ixSl, k_fadr, k_fld, k_ext, k_len, k_app, k_mn, k_mx, k_nilck, k_build, k_bsl1, k_bsl2, b_add, b_sub, b_mul, b_eql, b_neq, b_lss, b_leq, b_gtr, b_geq, Dn.setLast, Dn.getLast, evalO, mapO, Dn.get, putE, keepE, TV.one, TV.isAgg, Dn.part]
  | m + 1, x, y + 1, h => by
    have hr := rem_nat (x := x) (y := y + 1) (by omega)
    have hlt : x % (y + 1) < y + 1 := Nat.mod_lt _ (by omega)
    obtain ⟨e, h1, h2, h3, h4⟩ := l54_all (pg := pg) (a := a) (b := b) (H := H) m (y + 1) (x % (y + 1)) (by omega)
    rw [Nat.gcd_comm (y + 1), ← Nat.gcd_rec (y + 1) x, Nat.gcd_comm] at h4
    refine ⟨e, Eq.trans ?_ h1, h2, h3, h4⟩
    have hne : (((y + 1 : Nat) : Int) != 0) = true := by simp; omega
    generalize ((x % (y + 1) : Nat) : Int) = r at *
    generalize ((y + 1 : Nat) : Int) = yy at *
    rw [l54_1, den_loop]
    simp [l54_1, b54_0, go_nil, go_last, go_past, go_pastR, go_blkN, go_blkR, go_blkE, go_skip, go_exit, go_ret, go_scope, go_seq, go_reg, go_block, go_cond, cnd_b, go_opsN, go_ops, go_opsG, grd_b, grd_u, stp_some, fin_some, up_some, cont_some, k_call, k_mv, k_pick, k_bin, k_eqB, k_eqA, k_not, k_neg, k_conv, k_alloc, k_boxA, k_boxI, k_boxB, k_boxN, k_boxBs, k_ldR, k_ldA, k_ldI, k_ldB, k_stA, k_stI, k_stB, ldC_some, stC_some, k_mkfn, k_slc, k_slcA, k_ixA, k_ixBs, k_ixSl, k_fadr, k_fld, k_ext, k_len, k_app, k_mn, k_mx, k_nilck, k_build, k_bsl1, k_bsl2, b_add, b_sub, b_mul, b_eql, b_neq, b_lss, b_leq, b_gtr, b_geq, Dn.setLast, Dn.getLast, evalO, mapO, Dn.get, putE, keepE, TV.one, TV.isAgg, Dn.part, hne, hr]

/-- a fraction in lowest terms -/
def lowV (x y : Nat) : TV := .agg [.i .i64 ((x / Nat.gcd x y : Nat) : Int), .i .i64 ((y / Nat.gcd x y : Nat) : Int)]

theorem call54 {pg : Pg} (hF : Free pg) {x y : Nat} (hx : 1 ≤ x ∧ x ≤ 1000000) (hy : y ≤ 1000000) (H : Heap) : callRun pg (den pg) (.pu []) [.fn 54 [] [], .agg [.i .i64 (x : Int), .i .i64 (y : Int)]] H = some (lowV x y, H) := by
  have hg : 0 < Nat.gcd x y := Nat.gcd_pos_of_pos_left _ (by omega)
  have q1 := quo_nat (x := x) hg (by omega)
  have q2 := quo_nat (x := y) hg (by omega)
  obtain ⟨e, h1, h2, h3, h4⟩ := l54_all (pg := pg) (a := .ref 0 0) (b := .ref 1 0) (H := [.cells [.i .i64 (x : Int), .i .i64 (y : Int)] true, .cells [.i .i64 0, .i .i64 0] true]) y x y (Nat.le_refl _)
  unfold lowV
  generalize ((x / Nat.gcd x y : Nat) : Int) = u at *
  generalize ((y / Nat.gcd x y : Nat) : Int) = v at *
  generalize ((Nat.gcd x y : Nat) : Int) = w at *
  refine PFn.call (xs := [.agg [.i .i64 (x : Int), .i .i64 (y : Int)]]) (.of_go (x := .ret) (e := [(2, .ref 1 0)]) (H' := [.cells [.i .i64 (x : Int), .i .i64 (y : Int)] true, .cells [.i .i64 u, .i .i64 v] true]) (vs := [.agg [.i .i64 u, .i .i64 v]]) (hF.S _ _ (by decide)) (d := d54) (by rw [hF.F]; rfl) rfl ?_ (.inl rfl) rfl (by
    show Dn.snap .fin _ 9 (.agg [.i .i64 u, .i .i64 v]) = _
    simp [sn_i, sn_b, sn_nil, sn8_i, sn8_b, sn8_nil, sn7_i, sn7_b, sn_sl, sn8_sl, slB_some, sn_tup, sn_agg, sn8_agg, mapO, elems])) (args := [.agg [.i .i64 (x : Int), .i .i64 (y : Int)]]) (by simp [snapArgs, sn_i, sn_b, sn_nil, sn8_i, sn8_b, sn8_nil, sn7_i, sn7_b, sn_sl, sn8_sl, slB_some, sn_tup, sn_agg, sn8_agg, mapO, elems])
  simp [d54, c54, zipE, go_nil, go_last, go_past, go_pastR, go_blkN, go_blkR, go_blkE, go_skip, go_exit, go_ret, go_scope, go_seq, go_reg, go_block, go_cond, cnd_b, go_opsN, go_ops, go_opsG, grd_b, grd_u, stp_some, fin_some, up_some, cont_some, k_call, k_mv, k_pick, k_bin, k_eqB, k_eqA, k_not, k_neg, k_conv, k_alloc, k_boxA, k_boxI, k_boxB, k_boxN, k_boxBs, k_ldR, k_ldA, k_ldI, k_ldB, k_stA, k_stI, k_stB, ldC_some, stC_some, k_mkfn, k_slc, k_slcA, k_ixA, k_ixBs, k_ixSl, k_fadr, k_fld, k_ext, k_len, k_app, k_mn, k_mx, k_nilck, k_build, k_bsl1, k_bsl2, b_add, b_sub, b_mul, b_eql, b_neq, b_lss, b_leq, b_gtr, b_geq, Dn.setLast, Dn.getLast, evalO, mapO, Dn.get, putE, keepE, TV.one, TV.isAgg, Dn.part, go_denK (c := l54_1) rfl, h1, h2, h3, h4, q1, q2, fillP, put2, TV.cells]

end Go.Proofs.Tryd.Dn

/-
  Both indices, and which of two is better.
-/

namespace Go.Proofs.Tryd.Dn
open Go.Dn

theorem snZ (X : List Obs) (H : Heap) : Dn.snap .borrow H 9 ((elS false).lt false X) = some ((elS true).lt true X) := snap_pairs false false H 5 X

theorem st2 {pg : Pg} {R : Rec} (H : Heap) (a b c d : Int) : dkc pg R (.st 2) [.ref H.length 0, .agg [.i .i64 c, .i .i64 d]] (H ++ [.cells [.i .i64 a, .i .i64 b] true]) = some (.undef, H ++ [.cells [.i .i64 c, .i .i64 d] true]) := by
  rw [k_stA, Dn.getLast, stC_some, if_pos ⟨rfl, rfl, by simp⟩, Dn.setLast]; rfl

theorem ldp {pg : Pg} {R : Rec} {H : Heap} {id : Nat} {p q : Int} (h : H[id]? = some (.cells [.i .i64 p, .i .i64 q] true)) :
    dkc pg R (.ld 1 false) [.ref id 0] H = some (.i .i64 p, H) ∧ dkc pg R (.ld 1 false) [.ref id 1] H = some (.i .i64 q, H) := by
  constructor
  · rw [k_ldR, h, ldC_some]; simp [Dn.part, TV.isAgg, up]
  · rw [k_ldR, h, ldC_some]; simp [Dn.part, TV.isAgg, up]

/-! the reference's -/

end Go.Proofs.Tryd.Dn

/-
  PriceIndices: the whole run answers true.
-/

namespace Go.Proofs.Tryd.Dn
open Go.Dn

end Go.Proofs.Tryd.Dn

