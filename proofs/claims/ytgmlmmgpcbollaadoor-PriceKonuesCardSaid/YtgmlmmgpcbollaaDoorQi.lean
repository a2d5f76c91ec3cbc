/-
  Shares in lowest terms; both indices.
-/
import Derived.Test.YtgmlmmgpcbollaaDoorQh
set_option linter.unusedSimpArgs false
set_option linter.unusedVariables false

namespace Go.Proofs.Tryd.Dn
open Go.Dn

theorem Market.pos {X : List Obs} {g : Nat} (h : Market X g) {i k : Nat} (hi : i < X.length) (hk : k < X.length) : 1 ≤ costOf X i k := by
  obtain ⟨a1, a2, a3, a4, a5⟩ := okObs_iff.1 (h.ok X[i] (List.getElem_mem hi))
  obtain ⟨b1, b2, b3, b4, b5⟩ := okObs_iff.1 (h.ok X[k] (List.getElem_mem hk))
  simp only [costOf, List.getElem?_eq_getElem hi, List.getElem?_eq_getElem hk, Option.map_some, Option.getD_some]
  exact dot_pos a1 b2 a3 b4 b5

/-- the costs, as natural numbers -/
def cN (X : List Obs) (i k : Nat) : Nat := (costOf X i k).toNat
theorem Market.cN {X : List Obs} {g : Nat} (h : Market X g) {i k : Nat} (hi : i < X.length) (hk : k < X.length) : costOf X i k = (cN X i k : Int) ∧ 1 ≤ Tryd.Dn.cN X i k ∧ Tryd.Dn.cN X i k ≤ 1200 := by
  have h1 := h.pos hi hk
  have h2 := h.cost hi hk
  unfold Tryd.Dn.cN
  omega

theorem rem_nat {x y : Nat} (hy : 0 < y) : binI .rem (.i .i64 (x : Int)) (.i .i64 (y : Int)) = some (.i .i64 ((x % y : Nat) : Int)) := by
  rw [b_rem, if_neg (by omega), Int.tmod_eq_emod_of_nonneg (by omega)]
  simp
theorem quo_nat {x y : Nat} (hy : 0 < y) (hx : x ≤ 1000000) : binI .quo (.i .i64 (x : Int)) (.i .i64 (y : Int)) = some (.i .i64 ((x / y : Nat) : Int)) := by
  have h0 : ¬ (y : Int) = 0 := by omega
  have h1 : x / y ≤ x := Nat.div_le_self _ _
  have h2' : ∀ z : Nat, z ≤ x → wrapR .i64 (z : Int) = .i .i64 (z : Int) := fun z hz => wrapR_i64 (by omega)
  have h2 := h2' _ h1
  have h3 : (x : Int).tdiv (y : Int) = ((x / y : Nat) : Int) := by rw [Int.tdiv_eq_ediv_of_nonneg (by omega)]; simp
  simp only [binI, if_neg h0, h3, h2]
  simp

theorem l54_all {pg : Pg} {a b : TV} {H : Heap} : ∀ (m x y : Nat), y ≤ m → ∃ e, den pg l54_1 [(1, a), (2, b), (3, .i .i64 (x : Int)), (4, .i .i64 (y : Int))] H = some ⟨.exit 0, e, H⟩ ∧ Dn.get e 1 = some a ∧ Dn.get e 2 = some b ∧ Dn.get e 3 = some (.i .i64 ((Nat.gcd x y : Nat) : Int))
  | m, x, 0, h => by
    refine ⟨[(1, a), (2, b), (3, .i .i64 (x : Int)), (4, .i .i64 0), (10, .b false)], ?_, rfl, rfl, by rw [Nat.gcd_zero_right]; rfl⟩
    rw [l54_1, den_loop]
    simp [b54_0, go_nil, go_last, go_past, go_pastR, go_blkN, go_blkR, go_blkE, go_skip, go_exit, go_ret, go_scope, go_seq, go_reg, go_block, go_cond, cnd_b, go_opsN, go_ops, go_opsG, grd_b, grd_u, stp_some, fin_some, up_some, cont_some, k_call, k_mv, k_pick, k_bin, k_eqB, k_eqA, k_not, k_neg, k_conv, k_alloc, k_boxA, k_boxI, k_boxB, k_boxN, k_boxBs, k_ldR, k_ldA, k_ldI, k_ldB, k_stA, k_stI, k_stB, ldC_some, stC_some, k_mkfn, k_slc, k_slcA, k_ixA, k_ixBs, k_ixSl, k_fadr, k_fld, k_ext, k_len, k_app, k_mn, k_mx, k_nilck, k_build, k_bsl1, k_bsl2, b_add, b_sub, b_mul, b_eql, b_neq, b_lss, b_leq, b_gtr, b_geq, Dn.setLast, Dn.getLast, evalO, mapO, Dn.get, putE, keepE, TV.one, TV.isAgg, Dn.part]
  | m + 1, x, y + 1, h => by
    have hr := rem_nat (x := x) (y := y + 1) (by omega)
    have hlt : x % (y + 1) < y + 1 := Nat.mod_lt _ (by omega)
    obtain ⟨e, h1, h2, h3, h4⟩ := l54_all (pg := pg) (a := a) (b := b) (H := H) m (y + 1) (x % (y + 1)) (by omega)
    rw [Nat.gcd_comm (y + 1), ← Nat.gcd_rec (y + 1) x, Nat.gcd_comm] at h4
    refine ⟨e, Eq.trans ?_ h1, h2, h3, h4⟩
    have hne : (((y + 1 : Nat) : Int) != 0) = true := by simp; omega
    generalize ((x % (y + 1) : Nat) : Int) = r at *
    generalize ((y + 1 : Nat) : Int) = yy at *
    rw [l54_1, den_loop]
    simp [l54_1, b54_0, go_nil, go_last, go_past, go_pastR, go_blkN, go_blkR, go_blkE, go_skip, go_exit, go_ret, go_scope, go_seq, go_reg, go_block, go_cond, cnd_b, go_opsN, go_ops, go_opsG, grd_b, grd_u, stp_some, fin_some, up_some, cont_some, k_call, k_mv, k_pick, k_bin, k_eqB, k_eqA, k_not, k_neg, k_conv, k_alloc, k_boxA, k_boxI, k_boxB, k_boxN, k_boxBs, k_ldR, k_ldA, k_ldI, k_ldB, k_stA, k_stI, k_stB, ldC_some, stC_some, k_mkfn, k_slc, k_slcA, k_ixA, k_ixBs, k_ixSl, k_fadr, k_fld, k_ext, k_len, k_app, k_mn, k_mx, k_nilck, k_build, k_bsl1, k_bsl2, b_add, b_sub, b_mul, b_eql, b_neq, b_lss, b_leq, b_gtr, b_geq, Dn.setLast, Dn.getLast, evalO, mapO, Dn.get, putE, keepE, TV.one, TV.isAgg, Dn.part, hne, hr]

/-- a fraction in lowest terms -/
def lowV (x y : Nat) : TV := .agg [.i .i64 ((x / Nat.gcd x y : Nat) : Int), .i .i64 ((y / Nat.gcd x y : Nat) : Int)]

theorem call54 {pg : Pg} (hF : Free pg) {x y : Nat} (hx : 1 ≤ x ∧ x ≤ 1000000) (hy : y ≤ 1000000) (H : Heap) : callRun pg (den pg) (.pu []) [.fn 54 [] [], .agg [.i .i64 (x : Int), .i .i64 (y : Int)]] H = some (lowV x y, H) := by
  have hg : 0 < Nat.gcd x y := Nat.gcd_pos_of_pos_left _ (by omega)
  have q1 := quo_nat (x := x) hg (by omega)
  have q2 := quo_nat (x := y) hg (by omega)
  obtain ⟨e, h1, h2, h3, h4⟩ := l54_all (pg := pg) (a := .ref 0 0) (b := .ref 1 0) (H := [.cells [.i .i64 (x : Int), .i .i64 (y : Int)] true, .cells [.i .i64 0, .i .i64 0] true]) y x y (Nat.le_refl _)
  unfold lowV
  generalize ((x / Nat.gcd x y : Nat) : Int) = u at *
  generalize ((y / Nat.gcd x y : Nat) : Int) = v at *
  generalize ((Nat.gcd x y : Nat) : Int) = w at *
  refine PFn.call (xs := [.agg [.i .i64 (x : Int), .i .i64 (y : Int)]]) (.of_go (x := .ret) (e := [(2, .ref 1 0)]) (H' := [.cells [.i .i64 (x : Int), .i .i64 (y : Int)] true, .cells [.i .i64 u, .i .i64 v] true]) (vs := [.agg [.i .i64 u, .i .i64 v]]) (hF.S _ _ (by decide)) (d := d54) (by rw [hF.F]; rfl) rfl ?_ (.inl rfl) rfl (by
    show Dn.snap .fin _ 9 (.agg [.i .i64 u, .i .i64 v]) = _
    simp [sn_i, sn_b, sn_nil, sn8_i, sn8_b, sn8_nil, sn7_i, sn7_b, sn_sl, sn8_sl, slB_some, sn_tup, sn_agg, sn8_agg, mapO, elems])) (args := [.agg [.i .i64 (x : Int), .i .i64 (y : Int)]]) (by simp [snapArgs, sn_i, sn_b, sn_nil, sn8_i, sn8_b, sn8_nil, sn7_i, sn7_b, sn_sl, sn8_sl, slB_some, sn_tup, sn_agg, sn8_agg, mapO, elems])
  simp [d54, c54, zipE, go_nil, go_last, go_past, go_pastR, go_blkN, go_blkR, go_blkE, go_skip, go_exit, go_ret, go_scope, go_seq, go_reg, go_block, go_cond, cnd_b, go_opsN, go_ops, go_opsG, grd_b, grd_u, stp_some, fin_some, up_some, cont_some, k_call, k_mv, k_pick, k_bin, k_eqB, k_eqA, k_not, k_neg, k_conv, k_alloc, k_boxA, k_boxI, k_boxB, k_boxN, k_boxBs, k_ldR, k_ldA, k_ldI, k_ldB, k_stA, k_stI, k_stB, ldC_some, stC_some, k_mkfn, k_slc, k_slcA, k_ixA, k_ixBs, k_ixSl, k_fadr, k_fld, k_ext, k_len, k_app, k_mn, k_mx, k_nilck, k_build, k_bsl1, k_bsl2, b_add, b_sub, b_mul, b_eql, b_neq, b_lss, b_leq, b_gtr, b_geq, Dn.setLast, Dn.getLast, evalO, mapO, Dn.get, putE, keepE, TV.one, TV.isAgg, Dn.part, go_denK (c := l54_1) rfl, h1, h2, h3, h4, q1, q2, fillP, put2, TV.cells]

end Go.Proofs.Tryd.Dn

/-
  Both indices, and which of two is better.
-/

namespace Go.Proofs.Tryd.Dn
open Go.Dn

theorem snZ (X : List Obs) (H : Heap) : Dn.snap .borrow H 9 ((elS false).lt false X) = some ((elS true).lt true X) := snap_pairs false false H 5 X

/-- both indices -/
def ixV (X : List Obs) (i k : Nat) : TV := .agg [.i .i64 ((cN X k i / Nat.gcd (cN X k i) (cN X i i) : Nat) : Int), .i .i64 ((cN X i i / Nat.gcd (cN X k i) (cN X i i) : Nat) : Int),
  .i .i64 ((cN X k k / Nat.gcd (cN X k k) (cN X i k) : Nat) : Int), .i .i64 ((cN X i k / Nat.gcd (cN X k k) (cN X i k) : Nat) : Int)]

theorem sv2 (a b : Int) : SV (.bs true 1 [.i .i64 a, .i .i64 b]) [a, b] := .inr ⟨true, rfl⟩

theorem inr_iff {n : Nat} {a b : Int} : (∀ p ∈ [a, b], 0 ≤ p ∧ p < (n : Int)) ↔ (0 ≤ a ∧ a < n) ∧ (0 ≤ b ∧ b < n) := by simp

theorem st2 {pg : Pg} {R : Rec} (H : Heap) (a b c d : Int) : dkc pg R (.st 2) [.ref H.length 0, .agg [.i .i64 c, .i .i64 d]] (H ++ [.cells [.i .i64 a, .i .i64 b] true]) = some (.undef, H ++ [.cells [.i .i64 c, .i .i64 d] true]) := by
  rw [k_stA, Dn.getLast, stC_some, if_pos ⟨rfl, rfl, by simp⟩, Dn.setLast]; rfl

theorem st4 {pg : Pg} {R : Rec} {H : Heap} {id : Nat} {c : List TV} (h : H[id]? = some (.cells c true)) (hc : c.length = 4) (p q r s : Int) : dkc pg R (.st 4) [.ref id 0, .agg [.i .i64 p, .i .i64 q, .i .i64 r, .i .i64 s]] H = some (.undef, H.set id (.cells [.i .i64 p, .i .i64 q, .i .i64 r, .i .i64 s] true)) := by
  rw [k_stA, h, stC_some, if_pos ⟨rfl, rfl, by omega⟩]
  have hd : List.drop 4 c = [] := List.drop_eq_nil_of_le (by omega)
  simp [put2, hd]

theorem ldp {pg : Pg} {R : Rec} {H : Heap} {id : Nat} {p q : Int} (h : H[id]? = some (.cells [.i .i64 p, .i .i64 q] true)) :
    dkc pg R (.ld 1 false) [.ref id 0] H = some (.i .i64 p, H) ∧ dkc pg R (.ld 1 false) [.ref id 1] H = some (.i .i64 q, H) := by
  constructor
  · rw [k_ldR, h, ldC_some]; simp [Dn.part, TV.isAgg, up]
  · rw [k_ldR, h, ldC_some]; simp [Dn.part, TV.isAgg, up]

theorem call39 {pg : Pg} (hF : Free pg) {X : List Obs} {g : Nat} (hm : Market X g) {i k : Nat} (hi : i < X.length) (hk : k < X.length) (H : Heap) : callRun pg (den pg) (.pu []) [.fn 39 [] [], (elS false).lt false X, .i .i64 (i : Int), .i .i64 (k : Int)] H = some (.tup [ixV X i k, .i .i64 0], H) := by
  have hn5 := hm.n5
  have hi5 : i < 5 := by omega
  have hk5 : k < 5 := by omega
  obtain ⟨H1, h1, h2, h3, h4⟩ := body53 hF hm (P := .sl 1 0 1 false 2 (some 2)) (P' := .bs true 1 [.i .i64 (i : Int), .i .i64 (k : Int)]) (elS_RV true true X) (sv2 i k) (by simp) (by rw [inr_iff]; omega) (H := [.cells [.i .i64 0, .i .i64 0, .i .i64 0, .i .i64 0] true, .cells [.i .i64 (i : Int), .i .i64 (k : Int)] false]) (by simp [sn_i, sn_b, sn_nil, sn8_i, sn8_b, sn8_nil, sn7_i, sn7_b, sn_sl, sn8_sl, slB_some, sn_tup, sn_agg, sn8_agg, mapO, elems])
  simp only [List.length_cons, List.length_nil, Nat.zero_add, Nat.reduceAdd] at h1 h2 h3
  have h0 : H1[0]? = some (.cells [.i .i64 0, .i .i64 0, .i .i64 0, .i .i64 0] true) := h4 0 (by simp)
  obtain ⟨n1, p1, u1⟩ := hm.cN hk hi
  obtain ⟨n2, p2, u2⟩ := hm.cN hi hi
  obtain ⟨n3, p3, u3⟩ := hm.cN hk hk
  obtain ⟨n4, p4, u4⟩ := hm.cN hi hk
  have c1 := call54 hF (x := cN X k i) (y := cN X i i) (by omega) (by omega)
  have c2 := call54 hF (x := cN X k k) (y := cN X i k) (by omega) (by omega)
  have l1 := ld_mC (pg := pg) (R := den pg) h2 hk5 hi5
  have l2 := ld_mC (pg := pg) (R := den pg) h2 hi5 hi5
  rw [costF_in hk hi, n1] at l1
  rw [costF_in hi hi, n2] at l2
  unfold lowV at c1 c2
  unfold ixV
  generalize ((cN X k i / Nat.gcd (cN X k i) (cN X i i) : Nat) : Int) = v1 at *
  generalize ((cN X i i / Nat.gcd (cN X k i) (cN X i i) : Nat) : Int) = v2 at *
  generalize ((cN X k k / Nat.gcd (cN X k k) (cN X i k) : Nat) : Int) = v3 at *
  generalize ((cN X i k / Nat.gcd (cN X k k) (cN X i k) : Nat) : Int) = v4 at *
  obtain ⟨HA, hA⟩ : ∃ HA, HA = H1 ++ [.cells [.i .i64 v1, .i .i64 v2] true] := ⟨_, rfl⟩
  have hAl : HA.length = H1.length + 1 := by rw [hA]; simp
  have s1 := st2 (pg := pg) (R := den pg) H1 0 0 v1 v2
  rw [← hA] at s1
  have hA2 : HA[2]? = some (.cells (mX X) true) := by rw [hA, List.getElem?_append_left h3]; exact h2
  have l3 := ld_mC (pg := pg) (R := den pg) hA2 hk5 hk5
  have l4 := ld_mC (pg := pg) (R := den pg) hA2 hi5 hk5
  rw [costF_in hk hk, n3] at l3
  rw [costF_in hi hk, n4] at l4
  obtain ⟨HB, hB⟩ : ∃ HB, HB = HA ++ [.cells [.i .i64 v3, .i .i64 v4] true] := ⟨_, rfl⟩
  have s2 := st2 (pg := pg) (R := den pg) HA 0 0 v3 v4
  rw [← hB] at s2
  have b1 : HB[H1.length]? = some (.cells [.i .i64 v1, .i .i64 v2] true) := by rw [hB, List.getElem?_append_left (by omega), hA]; exact getLast _ _
  have b2 : HB[HA.length]? = some (.cells [.i .i64 v3, .i .i64 v4] true) := by rw [hB]; exact getLast _ _
  obtain ⟨r1, r2⟩ := ldp (pg := pg) (R := den pg) b1
  obtain ⟨r3, r4⟩ := ldp (pg := pg) (R := den pg) b2
  have b0 : HB[0]? = some (.cells [.i .i64 0, .i .i64 0, .i .i64 0, .i .i64 0] true) := by rw [hB, List.getElem?_append_left (by omega), hA, List.getElem?_append_left (by omega)]; exact h0
  have s3 := st4 (pg := pg) (R := den pg) b0 rfl v1 v2 v3 v4
  have hBl : 0 < HB.length := (List.getElem?_eq_some_iff.1 b0).1
  refine PFn.call (.of2 (xs := [(elS true).lt true X, .i .i64 (i : Int), .i .i64 (k : Int)]) (x := .ret) (e := [(6, .ref 0 0), (7, .i .i64 0)]) (H' := HB.set 0 (.cells [.i .i64 v1, .i .i64 v2, .i .i64 v3, .i .i64 v4] true)) (vs := [.agg [.i .i64 v1, .i .i64 v2, .i .i64 v3, .i .i64 v4], .i .i64 0]) (hF.S _ _ (by decide)) (d := d39) (by rw [hF.F]; rfl) rfl ?_ (.inl rfl) (by simp [d39, mapO, resRun, Dn.get, dk, Dn.part, hBl]) (by simp) (by simp [sn_i, sn_b, sn_nil, sn8_i, sn8_b, sn8_nil, sn7_i, sn7_b, sn_sl, sn8_sl, slB_some, sn_tup, sn_agg, sn8_agg, mapO, elems])) (args := [(elS false).lt false X, .i .i64 (i : Int), .i .i64 (k : Int)]) (by simp [snapArgs, snZ, sn_i, sn_b, sn_nil, sn8_i, sn8_b, sn8_nil, sn7_i, sn7_b, sn_sl, sn8_sl, slB_some, sn_tup, sn_agg, sn8_agg, mapO, elems])
  simp [d39, c39, zipE, go_nil, go_last, go_past, go_pastR, go_blkN, go_blkR, go_blkE, go_skip, go_exit, go_ret, go_scope, go_seq, go_reg, go_block, go_cond, cnd_b, go_opsN, go_ops, go_opsG, grd_b, grd_u, stp_some, fin_some, up_some, cont_some, k_call, k_mv, k_pick, k_bin, k_eqB, k_eqA, k_not, k_neg, k_conv, k_alloc, k_boxA, k_boxI, k_boxB, k_boxN, k_boxBs, k_ldR, k_ldA, k_ldI, k_ldB, k_stA, k_stI, k_stB, ldC_some, stC_some, k_mkfn, k_slc, k_slcA, k_ixA, k_ixBs, k_ixSl, k_fadr, k_fld, k_ext, k_len, k_app, k_mn, k_mx, k_nilck, k_build, k_bsl1, k_bsl2, b_add, b_sub, b_mul, b_eql, b_neq, b_lss, b_leq, b_gtr, b_geq, Dn.setLast, Dn.getLast, evalO, mapO, Dn.get, putE, keepE, TV.one, TV.isAgg, Dn.part, sh_fn, h1, hi5, hk5, l1, l2, c1, fillP, put2, TV.cells, s1, l3, l4, c2, s2, r1, r2, r3, r4, s3]

/-! the reference's -/

end Go.Proofs.Tryd.Dn

/-
  PriceIndices: the whole run answers true.
-/

namespace Go.Proofs.Tryd.Dn
open Go.Dn

theorem st4n {pg : Pg} {R : Rec} (H : Heap) (p q r s : Int) : dkc pg R (.st 4) [.ref H.length 0, .agg [.i .i64 p, .i .i64 q, .i .i64 r, .i .i64 s]] (H ++ [.cells [.i .i64 0, .i .i64 0, .i .i64 0, .i .i64 0] true]) = some (.undef, H ++ [.cells [.i .i64 p, .i .i64 q, .i .i64 r, .i .i64 s] true]) := by
  rw [st4 (getLast _ _) rfl, Dn.setLast]
end Go.Proofs.Tryd.Dn

