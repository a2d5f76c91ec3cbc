/-
  Shares and rings; sets without a ring, in plain terms.
-/
import Derived.Test.YtgmlmmgpcbollaaDoorQo
set_option linter.unusedSimpArgs false
set_option linter.unusedVariables false

namespace Go.Proofs.Tryd.Dn
open Go.Dn

theorem Rch.head {E : Nat → Nat → Bool} {a c : Nat} (h : Rch E a c) (hne : a ≠ c) : ∃ b, E a b = true ∧ Rch E b c := by
  induction h with
  | here => exact absurd rfl hne
  | @step x y hx he ih =>
    by_cases hax : a = x
    · subst hax; exact ⟨y, he, .here⟩
    · obtain ⟨b, h1, h2⟩ := ih hax
      exact ⟨b, h1, .step h2 he⟩

/-! sets -/

end Go.Proofs.Tryd.Dn

/-
  PriceNearly: the loops.
-/

namespace Go.Proofs.Tryd.Dn
open Go.Dn

/-- a ring of all, by a value that is a market -/
theorem fn25 {pg : Pg} (hF : Free pg) {X : List Obs} {g : Nat} (hm : Market X g) :
    ∃ r : List Nat, PFn pg 25 [(elS true).lt true X] (.tup [elI.lt false (nI r), .b (decide (r ≠ [])), .i .i64 0]) ∧ (r = [] ↔ ¬ ∃ i k, PairT X.length (pref X 1 1) i k) := by
  have hn5 := hm.n5
  obtain ⟨H1, h1, h2, h3, h4⟩ := body53 hF hm (P := .nilsl) (P' := .nilsl) (ps := []) (elS_RV true true X) (.inl ⟨rfl, rfl⟩) (by simp) (by simp) (H := []) (sn_nil _ _)
  simp only [List.length_nil] at h1 h2
  have c57 := call57 hF hm h2
  obtain ⟨r, c60, r1, r2⟩ := call60 hF hm (all_small hm) (ba := 1) (bb := 1) (by omega) (by omega)
  have c60' := c60 H1 0 h2
  have hnn := nil_ne (pg := pg) (R := den pg) r
  refine ⟨r, ?_, ?_⟩
  · have hs : Dn.snap .fin H1 8 (elI.lt false (nI r)) = some (elI.lt false (nI r)) := snap_intsF H1 6 _
    refine .of_go (x := .ret) (e := [(2, elI.lt false (nI r)), (3, .b (decide (r ≠ []))), (4, .i .i64 0)]) (H' := H1) (vs := [elI.lt false (nI r), .b (decide (r ≠ [])), .i .i64 0]) (hF.S _ _ (by decide)) (d := d25) (by rw [hF.F]; rfl) rfl ?_ (.inl rfl) rfl (by
      show Dn.snap .fin H1 9 (.tup [elI.lt false (nI r), .b (decide (r ≠ [])), .i .i64 0]) = _
      rw [sn_tup]
      simp only [mapO, hs, sn8_b, sn8_i, Option.bind_some, Option.map_some])
    generalize ((2 ^ X.length - 1 : Nat) : Int) = al at c57 c60'
    generalize hd : decide (r ≠ []) = dd at *
    simp [d25, c25, zipE, go_nil, go_last, go_past, go_pastR, go_blkN, go_blkR, go_blkE, go_skip, go_exit, go_ret, go_scope, go_seq, go_reg, go_block, go_cond, cnd_b, go_opsN, go_ops, go_opsG, grd_b, grd_u, stp_some, fin_some, up_some, cont_some, k_call, k_mv, k_pick, k_bin, k_eqB, k_eqA, k_not, k_neg, k_conv, k_alloc, k_boxA, k_boxI, k_boxB, k_boxN, k_boxBs, k_ldR, k_ldA, k_ldI, k_ldB, k_stA, k_stI, k_stB, ldC_some, stC_some, k_mkfn, k_slc, k_slcA, k_ixA, k_ixBs, k_ixSl, k_fadr, k_fld, k_ext, k_len, k_app, k_mn, k_mx, k_nilck, k_build, k_bsl1, k_bsl2, b_add, b_sub, b_mul, b_eql, b_neq, b_lss, b_leq, b_gtr, b_geq, Dn.setLast, Dn.getLast, evalO, mapO, Dn.get, putE, keepE, TV.one, TV.isAgg, Dn.part, sh_fn, h1, hF.G, c57, c60', hnn]
  · rw [r1]
    constructor
    · rintro h ⟨i, k, hp⟩; exact h ⟨i, k, pair_iff.2 hp⟩
    · rintro h ⟨i, k, hp⟩; exact h ⟨i, k, pair_iff.1 hp⟩

/-- the same, with a slice that one owns -/
theorem call25o {pg : Pg} (hF : Free pg) {X : List Obs} {g : Nat} (hm : Market X g) {H : Heap} {T : TV} (hT : (elS false).Own H T X) :
    ∃ r : List Nat, callRun pg (den pg) (.pu []) [.fn 25 [] [], T] H = some (.tup [elI.lt false (nI r), .b (decide (r ≠ [])), .i .i64 0], H) ∧ (r = [] ↔ ¬ ∃ i k, PairT X.length (pref X 1 1) i k) := by
  obtain ⟨r, h1, h2⟩ := fn25 hF hm
  have hs : Dn.snap .borrow H 9 T = some ((elS true).lt true X) := El.Own.to (m := .borrow) (f := 8) (by decide) hT (E' := elS true) rfl (mapO_map fun a _ => snap_pair false H 5 a)
  exact ⟨r, PFn.call h1 (args := [T]) (by simp [snapArgs, hs]), h2⟩

/-- one observation of a slice, cut out -/
theorem slc_one {pg : Pg} {R : Rec} {X : List Obs} {i : Nat} (hi : i < X.length) (H : Heap) : dkc pg R (.slc true true false 2 true) [(elS false).lt false X, .i .i64 (i : Int), .i .i64 ((i + 1 : Nat) : Int)] H = some ((elS false).lt false (sub X [i]), H) := by
  have hne : X ≠ [] := by rintro rfl; simp at hi
  have hb : bounds3 true true false X.length [.i .i64 (i : Int), .i .i64 ((i + 1 : Nat) : Int)] = some (i, i + 1, none) := by
    have h1 : (0 : Int) ≤ (i : Int) := by omega
    have h2 : (0 : Int) ≤ ((i + 1 : Nat) : Int) := by omega
    simp only [bounds3, bound, if_true, List.head?_cons, Option.bind_some, List.drop_succ_cons, List.drop_zero, h1, h2, Int.toNat_natCast, Bool.false_eq_true, if_false]
    rw [if_pos (by omega)]
  rw [El.lt_ne hne, k_slc]
  have h2 : ((X.map (elS false).val).drop i).take (i + 1 - i) = (sub X [i]).map (elS false).val := by
    rw [Nat.add_sub_cancel_left, List.drop_eq_getElem_cons (by simpa using hi)]
    simp [sub, List.getElem?_eq_getElem hi]
  simp only [slcRun, List.length_map, hb, Option.bind_some, Option.getD_none, true_and]
  rw [if_pos ⟨rfl, by omega, by omega, by omega⟩, if_neg (by simp), h2]
  rfl

theorem sub_append (X : List Obs) (a b : List Nat) : sub X (a ++ b) = sub X a ++ sub X b := by simp [sub]

theorem one_market {X : List Obs} {g : Nat} (hm : Market X g) {i : Nat} (hi : i < X.length) : Market (sub X [i]) g :=
  sub_market hm (by simp) (by simpa using hi) (by simp)

theorem wrap_nat1 {i : Nat} (h : i ≤ 1000000) : wrapR .i64 ((i : Int) + 1) = .i .i64 ((i + 1 : Nat) : Int) := by
  rw [show ((i + 1 : Nat) : Int) = (i : Int) + 1 by omega]; exact wrapR_i64 (by omega)

end Go.Proofs.Tryd.Dn

