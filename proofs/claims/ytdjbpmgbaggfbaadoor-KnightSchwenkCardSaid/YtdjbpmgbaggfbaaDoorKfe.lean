/-
  Knight: quiet sets and tight sets: the looks of the program and of the reference.
-/
import Derived.Test.YtdjbpmgbaggfbaaDoorKfd
import Derived.Test.YtdjbpmgbaggfbaaDoorKfa
set_option linter.unusedSimpArgs false
set_option linter.unusedVariables false

namespace Go.Proofs.Tryd.Dn
open Go.Dn

/-! the number of squares of a set -/
/-! the squares of a colour, in the reference -/
/-! the squares around a set, in the reference -/
theorem lt63 {r c : Nat} (h : Brd r c) : 2 ^ (r * c) ≤ 137438953472 := by
  have hn := h.n36
  have := Nat.pow_le_pow_right (n := 2) (by decide) (show r * c ≤ 37 by omega)
  omega

end Go.Proofs.Tryd.Dn

/-
  Knight: tight sets, looked at by the program and by the reference.
-/

namespace Go.Proofs.Tryd.Dn
open Go.Dn

theorem Bv.call60 {pg : Pg} (hF : Free pg) {r c : Nat} {H : Heap} {BV : TV} (hb : Bv r c H BV) (h : Brd r c) : callRun pg (den pg) (.pu []) [.fn 60 [] [], BV] H = some (tightV (tightS r c), H) := by
  unfold Bv at hb
  exact PFn.call (fn60 hF (bo := true) h) (args := [BV]) (by simp [snapArgs, hb])

theorem tightL_lt {r c : Nat} (h : Brd r c) {M : List Int} (hM : MOk (r * c) M) {w o : Nat} : ∀ (l : List Nat) {v : Nat}, (∀ s, s ∈ l → s < r * c) → tightL r c M w o l = some v → v < 2 ^ (r * c)
  | [], v, _, hv => by cases hv
  | s :: l, v, hl, hv => by
    rw [tightL] at hv
    split at hv
    · cases hv
      exact reachS_lt h hM fun x hx => by rw [List.mem_singleton] at hx; subst hx; exact hl _ (by simp)
    · exact tightL_lt h hM l (fun x hx => hl x (by simp [hx])) hv

theorem tightC_lt {r c : Nat} (h : Brd r c) {M : List Int} (hM : MOk (r * c) M) {col v : Nat} (hv : tightC r c M col = some v) : v < 2 ^ (r * c) := by
  unfold tightC at hv
  split at hv
  · rename_i w hw
    cases hv
    exact tightL_lt h hM _ (fun s hs => mem64_in (colM_lt r c col) hs) hw
  · split at hv
    · cases hv; exact colM_lt r c col
    · cases hv

theorem tightS_lt {r c : Nat} (h : Brd r c) {v : Nat} (hv : tightS r c = some v) : v < 2 ^ (r * c) := by
  unfold tightS at hv
  split at hv
  · rename_i w hw
    cases hv
    exact tightC_lt h (matesOf_ok h) hw
  · exact tightC_lt h (matesOf_ok h) hv

theorem fn35 {pg : Pg} (hF : Free pg) {r c : Nat} (h : Brd r c) : PFn pg 35 [.i .i64 (r : Int), .i .i64 (c : Int)] (.tup [.i .i64 (((tightS r c).getD 0 : Nat) : Int), .b (tightS r c).isSome, .i .i64 0]) := by
  have h63 := lt63 h
  obtain ⟨H1, h1, h2, h3, h4⟩ := body59n (pg := pg) hF h []
  simp only [List.length_nil] at h1 h2
  have c60 := (Bv.ref h2).call60 (pg := pg) hF h
  unfold tightV at c60
  have hlt : (tightS r c).getD 0 < 2 ^ (r * c) := by
    cases ht : tightS r c with
    | none => exact Nat.two_pow_pos _
    | some v => exact tightS_lt h ht
  have wx : wrapR .i64 (((tightS r c).getD 0 : Nat) : Int) = .i .i64 (((tightS r c).getD 0 : Nat) : Int) := wrapR_i64 (by omega)
  generalize (((tightS r c).getD 0 : Nat) : Int) = V at *
  generalize (tightS r c).isSome = B at *
  refine .of2 (x := .ret) (e := [(4, .i .i64 V), (5, .b B), (6, .i .i64 0)]) (H' := H1) (hF.S _ _ (by decide)) (d := d35) (by rw [hF.F]; rfl) rfl ?_ (.inl rfl) rfl (by simp) (by simp [sn_i, sn_b, sn_nil, sn8_i, sn8_b, sn8_nil, sn7_i, sn7_b, sn_sl, sn8_sl, slB_some, sn_tup, sn_agg, sn8_agg, mapO, elems])
  simp [d35, c35, zipE, go_nil, go_last, go_past, go_pastR, go_blkN, go_blkR, go_blkE, go_skip, go_exit, go_ret, go_scope, go_seq, go_reg, go_regd, go_opdN, go_opd, go_opdG, grdd_b, grdd_u, stpd_some, find_some, go_block, go_cond, cnd_b, go_opsN, go_ops, go_opsG, grd_b, grd_u, stp_some, fin_some, up_some, cont_some, k_call, k_mv, k_pick, k_bin, k_eqB, k_eqA, k_not, k_neg, k_conv, k_alloc, k_boxA, k_boxI, k_boxB, k_boxN, k_boxBs, k_ldR, k_ldA, k_ldI, k_ldB, k_stA, k_stI, k_stB, ldC_some, stC_some, k_mkfn, k_slc, k_slcA, k_ixA, k_ixBs, k_ixSl, k_fadr, k_fld, k_ext, k_len, k_app, k_mn, k_mx, k_nilck, k_build, k_bsl1, k_bsl2, b_add, b_sub, b_mul, b_eql, b_neq, b_lss, b_leq, b_gtr, b_geq, Dn.setLast, Dn.getLast, evalO, mapO, Dn.get, putE, keepE, TV.one, TV.isAgg, Dn.part, sh_fn, h1, c60, wx]

end Go.Proofs.Tryd.Dn

