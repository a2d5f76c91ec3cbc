/-
  Knight: tours: what they are, in the program and in the reference.
-/
import Derived.Test.YtdjbpmgbaggfbaaDoorKf9
set_option linter.unusedSimpArgs false
set_option linter.unusedVariables false

namespace Go.Proofs.Tryd.Dn
open Go.Dn

theorem sub_len {α : Type} [DecidableEq α] : ∀ (l1 l2 : List α), l1.Nodup → (∀ x, x ∈ l1 → x ∈ l2) → l1.length ≤ l2.length
  | [], _, _, _ => Nat.zero_le _
  | x :: l1, l2, hd, hs => by
    rw [List.nodup_cons] at hd
    have hx := hs x (by simp)
    have ih := sub_len l1 (l2.erase x) hd.2 fun y hy => by
      have hne : y ≠ x := by rintro rfl; exact hd.1 hy
      exact (List.mem_erase_of_ne hne).2 (hs y (by simp [hy]))
    have hl := List.length_erase_of_mem hx
    have := List.length_pos_of_mem hx
    rw [List.length_cons]
    omega

theorem take_snoc {α : Type} {l : List α} {k : Nat} {x : α} (h : l[k]? = some x) : l.take (k + 1) = l.take k ++ [x] := by
  have hk := (List.getElem?_eq_some_iff.1 h).1
  rw [List.take_succ_eq_append_getElem hk, (List.getElem?_eq_some_iff.1 h).2]

theorem nodup_snoc {α : Type} {l : List α} {x : α} : (l ++ [x]).Nodup ↔ l.Nodup ∧ x ∉ l := by
  rw [List.nodup_append]
  constructor
  · rintro ⟨h1, _, h3⟩
    exact ⟨h1, fun hx => h3 x hx x (by simp) rfl⟩
  · rintro ⟨h1, h2⟩
    exact ⟨h1, by simp, fun a ha b hb => by
      rw [List.mem_singleton] at hb
      subst hb
      rintro rfl
      exact h2 ha⟩

theorem wayAt_in {r c : Nat} {l : List Int} {i : Nat} (h : wayAt r c l i = true) : 0 ≤ l.getD i 0 ∧ l.getD i 0 < ((r * c : Nat) : Int) := by
  unfold wayAt at h
  simp only [Bool.and_eq_true, decide_eq_true_eq] at h
  exact h.1

/-! the board behind a pointer -/
theorem part_n (r c : Nat) : Dn.part 1 false 2 (bM r c) = some (.i .i64 ((r * c : Nat) : Int)) := part_one rfl rfl
theorem k_fadrN {pg : Pg} {R : Rec} (r c : Nat) (bo : Bool) (H : Heap) : dkc pg R (.fadr 2 1 false) [.bp bo (.agg (bM r c))] H = some (.bp bo (.i .i64 ((r * c : Nat) : Int)), H) := by
  have := part_n r c
  simp [dkc, dk, this]
theorem call81 {pg : Pg} (hF : Free pg) {r c : Nat} {bo : Bool} (h : Brd r c) (H : Heap) : callRun pg (den pg) (.pu []) [.fn 81 [] [], .bp bo (.agg (bM r c))] H = some (.i .u64 ((2 ^ (r * c) - 1 : Nat) : Int), H) := by
  have hn := h.n36
  have f : PFn pg 81 [.bp true (.agg (bM r c))] (.i .u64 ((2 ^ (r * c) - 1 : Nat) : Int)) := by
    have f2 := k_fadrN (pg := pg) (R := den pg) r c true []
    have n1 := k_nckB (pg := pg) (R := den pg) (.agg (bM r c)) true []
    have w1 := wrap_u (m := r * c) (by omega)
    have sh := Dn.shl_u (k := .u64) (c := r * c) (by omega)
    have hp : 1 ≤ 2 ^ (r * c) := Nat.one_le_two_pow
    have hlt := lv64 h
    have w2 : wrapR .u64 (((2 ^ (r * c) : Nat) : Int) - 1) = .i .u64 ((2 ^ (r * c) - 1 : Nat) : Int) := by
      rw [show ((2 ^ (r * c) : Nat) : Int) - 1 = ((2 ^ (r * c) - 1 : Nat) : Int) by omega]
      exact wrap_u (by omega)
    refine .of1 (x := .ret) (e := [(2, .i .u64 ((2 ^ (r * c) - 1 : Nat) : Int))]) (H' := []) (hF.S _ _ (by decide)) (d := d81) (by rw [hF.F]; rfl) rfl ?_ (.inl rfl) rfl (by simp [sn_i, sn_b, sn_nil, sn8_i, sn8_b, sn8_nil, sn7_i, sn7_b, sn_sl, sn8_sl, slB_some, sn_tup, sn_agg, sn8_agg, mapO, elems])
    generalize ((2 ^ (r * c) - 1 : Nat) : Int) = V at *
    generalize ((2 ^ (r * c) : Nat) : Int) = U at *
    generalize TV.agg (bM r c) = BM at *
    generalize ((r * c : Nat) : Int) = N at *
    simp [d81, c81, zipE, go_nil, go_last, go_past, go_pastR, go_blkN, go_blkR, go_blkE, go_skip, go_exit, go_ret, go_scope, go_seq, go_reg, go_regd, go_opdN, go_opd, go_opdG, grdd_b, grdd_u, stpd_some, find_some, go_block, go_cond, cnd_b, go_opsN, go_ops, go_opsG, grd_b, grd_u, stp_some, fin_some, up_some, cont_some, k_call, k_mv, k_pick, k_bin, k_eqB, k_eqA, k_not, k_neg, k_conv, k_alloc, k_boxA, k_boxI, k_boxB, k_boxN, k_boxBs, k_ldR, k_ldA, k_ldI, k_ldB, k_stA, k_stI, k_stB, ldC_some, stC_some, k_mkfn, k_slc, k_slcA, k_ixA, k_ixBs, k_ixSl, k_fadr, k_fld, k_ext, k_len, k_app, k_mn, k_mx, k_nilck, k_build, k_bsl1, k_bsl2, b_add, b_sub, b_mul, b_eql, b_neq, b_lss, b_leq, b_gtr, b_geq, Dn.setLast, Dn.getLast, evalO, mapO, Dn.get, putE, keepE, TV.one, TV.isAgg, Dn.part, f2, n1, w1, sh, w2]
  have := snap_bp bo H r c
  exact PFn.call f (args := [.bp bo (.agg (bM r c))]) (by simp [snapArgs, this])

structure Seen (r c : Nat) (l : List Int) (k seen : Nat) : Prop where
  ok : ∀ j, j < k → wayAt r c l j = true
  nd : (l.take k).Nodup
  lt : seen < 2 ^ (r * c)
  bit : ∀ t, t < r * c → (seen.testBit t = true ↔ ((t : Nat) : Int) ∈ l.take k)

theorem Seen.step {r c : Nat} {l : List Int} {k seen s : Nat} (h : Seen r c l k seen) (hs : l[k]? = some (s : Int)) (hw : wayAt r c l k = true) (hb : seen.testBit s = false) : Seen r c l (k + 1) (seen ||| 2 ^ s) := by
  have hin := wayAt_in hw
  rw [List.getD_eq_getElem?_getD, hs] at hin
  have hsr : s < r * c := by have := hin.2; simp only [Option.getD_some] at this; omega
  have ht := take_snoc hs
  refine ⟨fun j hj => ?_, ?_, or_lt h.lt (Nat.pow_lt_pow_right (by decide) hsr), fun t htr => ?_⟩
  · by_cases hjk : j = k
    · subst hjk; exact hw
    · exact h.ok j (by omega)
  · rw [ht, nodup_snoc]
    refine ⟨h.nd, fun hm => ?_⟩
    rw [(h.bit s hsr).2 hm] at hb
    cases hb
  · rw [ht, Nat.testBit_or, Bool.or_eq_true, h.bit t htr, List.mem_append, List.mem_singleton, Nat.testBit_two_pow, decide_eq_true_eq]
    constructor
    · rintro (h1 | h1)
      · exact .inl h1
      · exact .inr (by omega)
    · rintro (h1 | h1)
      · exact .inl h1
      · exact .inr (by omega)

end Go.Proofs.Tryd.Dn

/-
  Knight: the law of tours, run.
-/

namespace Go.Proofs.Tryd.Dn
open Go.Dn

theorem body59n {pg : Pg} (hF : Free pg) {r c : Nat} (h : Brd r c) (H : Heap) : ∃ H', bodyRun pg (den pg) 59 [.i .i64 (r : Int), .i .i64 (c : Int), .nilsl] H = some (.tup [.ref H.length 0, .i .i64 0], H') ∧
    H'[H.length]? = some (.cells (bM r c) true) ∧ H.length < H'.length ∧ ∀ m, m < H.length → H'[m]? = H[m]? := by
  obtain ⟨H', h1, h2⟩ := body59 (pg := pg) hF h (t := .nilsl) (ps := []) (H := H) (.inl ⟨rfl, rfl⟩) (by simp)
  exact ⟨H', by simpa using h1, h2⟩

/-! the reference -/
end Go.Proofs.Tryd.Dn

