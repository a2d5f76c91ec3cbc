/-
  Shares in lowest terms; both indices.
-/
import Derived.Test.YtgmlmmgpcbollaaDoorQh
set_option linter.unusedSimpArgs false
set_option linter.unusedVariables false

namespace Go.Proofs.Tryd.Dn
open Go.Dn

theorem Market.pos {X : List Obs} {g : Nat} (h : Market X g) {i k : Nat} (hi : i < X.length) (hk : k < X.length) : 1 ≤ costOf X i k := by
  obtain ⟨a1, a2, a3, a4, a5⟩ := okObs_iff.1 (h.ok X[i] (List.getElem_mem hi))
  obtain ⟨b1, b2, b3, b4, b5⟩ := okObs_iff.1 (h.ok X[k] (List.getElem_mem hk))
  simp only [costOf, List.getElem?_eq_getElem hi, List.getElem?_eq_getElem hk, Option.map_some, Option.getD_some]
  exact dot_pos a1 b2 a3 b4 b5

end Go.Proofs.Tryd.Dn

/-
  Both indices, and which of two is better.
-/

namespace Go.Proofs.Tryd.Dn
open Go.Dn

theorem snZ (X : List Obs) (H : Heap) : Dn.snap .borrow H 9 ((elS false).lt false X) = some ((elS true).lt true X) := snap_pairs false false H 5 X

theorem sv2 (a b : Int) : SV (.bs true 1 [.i .i64 a, .i .i64 b]) [a, b] := .inr ⟨true, rfl⟩

theorem inr_iff {n : Nat} {a b : Int} : (∀ p ∈ [a, b], 0 ≤ p ∧ p < (n : Int)) ↔ (0 ≤ a ∧ a < n) ∧ (0 ≤ b ∧ b < n) := by simp

theorem st2 {pg : Pg} {R : Rec} (H : Heap) (a b c d : Int) : dkc pg R (.st 2) [.ref H.length 0, .agg [.i .i64 c, .i .i64 d]] (H ++ [.cells [.i .i64 a, .i .i64 b] true]) = some (.undef, H ++ [.cells [.i .i64 c, .i .i64 d] true]) := by
  rw [k_stA, Dn.getLast, stC_some, if_pos ⟨rfl, rfl, by simp⟩, Dn.setLast]; rfl

/-- which one is better -/
def betV (a b : Bool) : Int := if a && b then 2 else if a then 1 else if b then -1 else 0

theorem pref_self (X : List Obs) (i : Nat) : pref X 1 1 i i = 1 := by
  unfold pref
  rw [if_neg (by omega), if_pos rfl]

theorem tE_lt {n : Nat} {P : Nat → Nat → Int} : ∀ i k, tE n P i k = true → k < n := by
  intro i k h
  simp only [tE, Bool.and_eq_true, decide_eq_true_eq] at h
  exact h.1.2

theorem rch_wall {X : List Obs} {i k : Nat} (hi : i < X.length) (hk : k < X.length) : Rch (wE X (2 ^ X.length - 1) 1 1) i k ↔ wall (tE X.length (pref X 1 1)) X.length i k = true := by
  rw [wall_iff tE_lt]
  constructor
  · intro h
    have h' := Rch.congr wE_all h
    by_cases he : i = k
    · subst he
      exact ⟨i, .here, by simp [tE, hi, pref_self]⟩
    · exact h'.rch1 he
  · intro h
    exact Rch.congr (fun i k => (wE_all i k).symm) h.rch

theorem call40 {pg : Pg} (hF : Free pg) {X : List Obs} {g : Nat} (hm : Market X g) {i k : Nat} (hi : i < X.length) (hk : k < X.length) (H : Heap) : callRun pg (den pg) (.pu []) [.fn 40 [] [], (elS false).lt false X, .i .i64 (i : Int), .i .i64 (k : Int)] H = some (.tup [.i .i64 (betV (wall (tE X.length (pref X 1 1)) X.length i k) (wall (tE X.length (pref X 1 1)) X.length k i)), .i .i64 0], H) := by
  have hn5 := hm.n5
  obtain ⟨H1, h1, h2, h3, h4⟩ := body53 hF hm (P := .sl 0 0 1 false 2 (some 2)) (P' := .bs true 1 [.i .i64 (i : Int), .i .i64 (k : Int)]) (elS_RV true true X) (sv2 i k) (by simp) (by rw [inr_iff]; omega) (H := [.cells [.i .i64 (i : Int), .i .i64 (k : Int)] false]) (by simp [sn_i, sn_b, sn_nil, sn8_i, sn8_b, sn8_nil, sn7_i, sn7_b, sn_sl, sn8_sl, slB_some, sn_tup, sn_agg, sn8_agg, mapO, elems])
  simp only [List.length_cons, List.length_nil, Nat.zero_add] at h1 h2 h3
  have c57 := call57 hF hm h2
  obtain ⟨r1, _, c1, w1, _⟩ := call56v (pg := pg) (t := k) hF hm (all_small hm) (ba := 1) (bb := 1) (by omega) (by omega) hi
  obtain ⟨r2, _, c2, w2, _⟩ := call56v (pg := pg) (t := i) hF hm (all_small hm) (ba := 1) (bb := 1) (by omega) (by omega) hk
  have c1' := c1 H1 1 h2
  have c2' := c2 H1 1 h2
  have n1 := nil_ne (pg := pg) (R := den pg) r1
  have n2 := nil_ne (pg := pg) (R := den pg) r2
  have b1 : decide (r1 ≠ []) = wall (tE X.length (pref X 1 1)) X.length i k := by
    rw [Bool.eq_iff_iff, decide_eq_true_eq, ← rch_wall hi hk]
    constructor
    · intro h; exact Classical.byContradiction fun hn => h (w1.2 hn)
    · intro h hn; exact w1.1 hn h
  have b2 : decide (r2 ≠ []) = wall (tE X.length (pref X 1 1)) X.length k i := by
    rw [Bool.eq_iff_iff, decide_eq_true_eq, ← rch_wall hk hi]
    constructor
    · intro h; exact Classical.byContradiction fun hn => h (w2.2 hn)
    · intro h hn; exact w2.1 hn h
  rw [b1] at n1
  rw [b2] at n2
  generalize wall (tE X.length (pref X 1 1)) X.length i k = x at *
  generalize wall (tE X.length (pref X 1 1)) X.length k i = y at *
  generalize ((2 ^ X.length - 1 : Nat) : Int) = al at *
  refine PFn.call (.of2 (xs := [(elS true).lt true X, .i .i64 (i : Int), .i .i64 (k : Int)]) (x := .ret) (e := [(6, .i .i64 (betV x y)), (7, .i .i64 0)]) (H' := H1) (vs := [.i .i64 (betV x y), .i .i64 0]) (hF.S _ _ (by decide)) (d := d40) (by rw [hF.F]; rfl) rfl ?_ (.inl rfl) rfl (by simp) (by simp [sn_i, sn_b, sn_nil, sn8_i, sn8_b, sn8_nil, sn7_i, sn7_b, sn_sl, sn8_sl, slB_some, sn_tup, sn_agg, sn8_agg, mapO, elems])) (args := [(elS false).lt false X, .i .i64 (i : Int), .i .i64 (k : Int)]) (by simp [snapArgs, snZ, sn_i, sn_b, sn_nil, sn8_i, sn8_b, sn8_nil, sn7_i, sn7_b, sn_sl, sn8_sl, slB_some, sn_tup, sn_agg, sn8_agg, mapO, elems])
  cases x <;> cases y <;> simp [d40, c40, zipE, go_nil, go_last, go_past, go_pastR, go_blkN, go_blkR, go_blkE, go_skip, go_exit, go_ret, go_scope, go_seq, go_reg, go_block, go_cond, cnd_b, go_opsN, go_ops, go_opsG, grd_b, grd_u, stp_some, fin_some, up_some, cont_some, k_call, k_mv, k_pick, k_bin, k_eqB, k_eqA, k_not, k_neg, k_conv, k_alloc, k_boxA, k_boxI, k_boxB, k_boxN, k_boxBs, k_ldR, k_ldA, k_ldI, k_ldB, k_stA, k_stI, k_stB, ldC_some, stC_some, k_mkfn, k_slc, k_slcA, k_ixA, k_ixBs, k_ixSl, k_fadr, k_fld, k_ext, k_len, k_app, k_mn, k_mx, k_nilck, k_build, k_bsl1, k_bsl2, b_add, b_sub, b_mul, b_eql, b_neq, b_lss, b_leq, b_gtr, b_geq, Dn.setLast, Dn.getLast, evalO, mapO, Dn.get, putE, keepE, TV.one, TV.isAgg, Dn.part, sh_fn, h1, hF.G, c57, c1', c2', n1, n2, betV]

/-! the reference's -/

end Go.Proofs.Tryd.Dn

/-
  PriceIndices: the whole run answers true.
-/

namespace Go.Proofs.Tryd.Dn
open Go.Dn

end Go.Proofs.Tryd.Dn

