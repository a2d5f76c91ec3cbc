/-
  Knight: tours: what they are, in the program and in the reference.
-/
import Derived.Test.YtdjbpmgbaggfbaaDoorKf9
set_option linter.unusedSimpArgs false
set_option linter.unusedVariables false

namespace Go.Proofs.Tryd.Dn
open Go.Dn

theorem sub_len {α : Type} [DecidableEq α] : ∀ (l1 l2 : List α), l1.Nodup → (∀ x, x ∈ l1 → x ∈ l2) → l1.length ≤ l2.length
  | [], _, _, _ => Nat.zero_le _
  | x :: l1, l2, hd, hs => by
    rw [List.nodup_cons] at hd
    have hx := hs x (by simp)
    have ih := sub_len l1 (l2.erase x) hd.2 fun y hy => by
      have hne : y ≠ x := by rintro rfl; exact hd.1 hy
      exact (List.mem_erase_of_ne hne).2 (hs y (by simp [hy]))
    have hl := List.length_erase_of_mem hx
    have := List.length_pos_of_mem hx
    rw [List.length_cons]
    omega

def tourB (r c : Nat) (l : List Int) : Bool := decide (l.length = r * c) && isWay r c l && decide l.Nodup

def endsB (c : Nat) (l : List Int) : Bool := near c (l.getD 0 0).toNat (l.getD (l.length - 1) 0).toNat
def closedB (r c : Nat) (l : List Int) : Bool := tourB r c l && endsB c l

theorem take_snoc {α : Type} {l : List α} {k : Nat} {x : α} (h : l[k]? = some x) : l.take (k + 1) = l.take k ++ [x] := by
  have hk := (List.getElem?_eq_some_iff.1 h).1
  rw [List.take_succ_eq_append_getElem hk, (List.getElem?_eq_some_iff.1 h).2]

theorem nodup_snoc {α : Type} {l : List α} {x : α} : (l ++ [x]).Nodup ↔ l.Nodup ∧ x ∉ l := by
  rw [List.nodup_append]
  constructor
  · rintro ⟨h1, _, h3⟩
    exact ⟨h1, fun hx => h3 x hx x (by simp) rfl⟩
  · rintro ⟨h1, h2⟩
    exact ⟨h1, by simp, fun a ha b hb => by
      rw [List.mem_singleton] at hb
      subst hb
      rintro rfl
      exact h2 ha⟩

theorem nodup_take {α : Type} {l : List α} (h : l.Nodup) (k : Nat) : (l.take k).Nodup := h.sublist (List.take_sublist _ _)

theorem wayAt_in {r c : Nat} {l : List Int} {i : Nat} (h : wayAt r c l i = true) : 0 ≤ l.getD i 0 ∧ l.getD i 0 < ((r * c : Nat) : Int) := by
  unfold wayAt at h
  simp only [Bool.and_eq_true, decide_eq_true_eq] at h
  exact h.1

theorem all_in {r c : Nat} {l : List Int} (h : ∀ j, j < l.length → wayAt r c l j = true) : ∀ x, x ∈ l → 0 ≤ x ∧ x < ((r * c : Nat) : Int) := by
  intro x hx
  obtain ⟨i, hi⟩ := List.getElem?_of_mem hx
  have := wayAt_in (h i (List.getElem?_eq_some_iff.1 hi).1)
  rwa [List.getD_eq_getElem?_getD, hi] at this

theorem all_there {n : Nat} {l : List Int} (hd : l.Nodup) (hi : ∀ x, x ∈ l → 0 ≤ x ∧ x < (n : Int)) : (∀ t, t < n → ((t : Nat) : Int) ∈ l) ↔ l.length = n := by
  have hle : l.length ≤ n := by
    have := sub_len l ((List.range n).map fun (t : Nat) => (t : Int)) hd fun x hx => by
      obtain ⟨h1, h2⟩ := hi x hx
      exact List.mem_map.2 ⟨x.toNat, List.mem_range.2 (by omega), by omega⟩
    simpa using this
  constructor
  · intro h
    have := sub_len ((List.range n).map fun (t : Nat) => (t : Int)) l (by
      rw [List.nodup_iff_pairwise_ne, List.pairwise_map]
      exact (List.nodup_iff_pairwise_ne.1 List.nodup_range).imp fun h1 h2 => h1 (by omega)) fun x hx => by
      obtain ⟨t, ht, rfl⟩ := List.mem_map.1 hx
      exact h t (List.mem_range.1 ht)
    simp at this
    omega
  · intro hl t ht
    apply Classical.byContradiction
    intro hc
    have := sub_len ((t : Int) :: l) ((List.range n).map fun (t : Nat) => (t : Int)) (List.nodup_cons.2 ⟨hc, hd⟩) fun x hx => by
      rcases List.mem_cons.1 hx with rfl | hx
      · exact List.mem_map.2 ⟨t, List.mem_range.2 ht, rfl⟩
      · obtain ⟨h1, h2⟩ := hi x hx
        exact List.mem_map.2 ⟨x.toNat, List.mem_range.2 (by omega), by omega⟩
    simp at this
    omega

/-! the board behind a pointer -/
theorem part_n (r c : Nat) : Dn.part 1 false 2 (bM r c) = some (.i .i64 ((r * c : Nat) : Int)) := part_one rfl rfl
theorem k_fadrN {pg : Pg} {R : Rec} (r c : Nat) (bo : Bool) (H : Heap) : dkc pg R (.fadr 2 1 false) [.bp bo (.agg (bM r c))] H = some (.bp bo (.i .i64 ((r * c : Nat) : Int)), H) := by
  have := part_n r c
  simp [dkc, dk, this]
theorem k_ixAM {pg : Pg} {R : Rec} {r c : Nat} (h : Brd r c) {s : Nat} (hs : s < r * c) (bo : Bool) (k : IntKind) (H : Heap) : dkc pg R (.ixA 36 1 false) [.bp bo (.agg (masks r c)), .i k (s : Int)] H = some (.bp bo (.i .u64 (mv r c s : Int)), H) := by
  have hn := h.n36
  have hm : mvTo r c (r * c) s = mv r c s := by unfold mvTo; rw [if_pos hs]
  rw [← hm]
  exact k_ixAB r c (by omega) bo k H

theorem bit_and {m c : Nat} (hm : m < 18446744073709551616) (hc : c < 64) : ∃ d : Nat, binI .shr (.i .u64 (m : Int)) (.i .u64 (c : Int)) = some (.i .u64 (d : Int)) ∧ binI .and (.i .u64 (d : Int)) (.i .u64 1) = some (.i .u64 (if m.testBit c = true then 1 else 0)) := by
  have h1 := Dn.shr_u (k := .u64) (m := m) (c := c) (by omega)
  have hd : m / 2 ^ c < 18446744073709551616 := Nat.lt_of_le_of_lt (Nat.div_le_self _ _) hm
  have h2 := and_uu (m := m / 2 ^ c) (k := 1) hd (by omega)
  rw [bit_and1] at h2
  refine ⟨m / 2 ^ c, h1, ?_⟩
  simp only [Int.cast_ofNat_Int] at h2
  rw [h2]
  split <;> rfl

theorem call81 {pg : Pg} (hF : Free pg) {r c : Nat} {bo : Bool} (h : Brd r c) (H : Heap) : callRun pg (den pg) (.pu []) [.fn 81 [] [], .bp bo (.agg (bM r c))] H = some (.i .u64 ((2 ^ (r * c) - 1 : Nat) : Int), H) := by
  have hn := h.n36
  have f : PFn pg 81 [.bp true (.agg (bM r c))] (.i .u64 ((2 ^ (r * c) - 1 : Nat) : Int)) := by
    have f2 := k_fadrN (pg := pg) (R := den pg) r c true []
    have n1 := k_nckB (pg := pg) (R := den pg) (.agg (bM r c)) true []
    have w1 := wrap_u (m := r * c) (by omega)
    have sh := Dn.shl_u (k := .u64) (c := r * c) (by omega)
    have hp : 1 ≤ 2 ^ (r * c) := Nat.one_le_two_pow
    have hlt := lv64 h
    have w2 : wrapR .u64 (((2 ^ (r * c) : Nat) : Int) - 1) = .i .u64 ((2 ^ (r * c) - 1 : Nat) : Int) := by
      rw [show ((2 ^ (r * c) : Nat) : Int) - 1 = ((2 ^ (r * c) - 1 : Nat) : Int) by omega]
      exact wrap_u (by omega)
    refine .of1 (x := .ret) (e := [(2, .i .u64 ((2 ^ (r * c) - 1 : Nat) : Int))]) (H' := []) (hF.S _ _ (by decide)) (d := d81) (by rw [hF.F]; rfl) rfl ?_ (.inl rfl) rfl (by simp [sn_i, sn_b, sn_nil, sn8_i, sn8_b, sn8_nil, sn7_i, sn7_b, sn_sl, sn8_sl, slB_some, sn_tup, sn_agg, sn8_agg, mapO, elems])
    generalize ((2 ^ (r * c) - 1 : Nat) : Int) = V at *
    generalize ((2 ^ (r * c) : Nat) : Int) = U at *
    generalize TV.agg (bM r c) = BM at *
    generalize ((r * c : Nat) : Int) = N at *
    simp [d81, c81, zipE, go_nil, go_last, go_past, go_pastR, go_blkN, go_blkR, go_blkE, go_skip, go_exit, go_ret, go_scope, go_seq, go_reg, go_regd, go_opdN, go_opd, go_opdG, grdd_b, grdd_u, stpd_some, find_some, go_block, go_cond, cnd_b, go_opsN, go_ops, go_opsG, grd_b, grd_u, stp_some, fin_some, up_some, cont_some, k_call, k_mv, k_pick, k_bin, k_eqB, k_eqA, k_not, k_neg, k_conv, k_alloc, k_boxA, k_boxI, k_boxB, k_boxN, k_boxBs, k_ldR, k_ldA, k_ldI, k_ldB, k_stA, k_stI, k_stB, ldC_some, stC_some, k_mkfn, k_slc, k_slcA, k_ixA, k_ixBs, k_ixSl, k_fadr, k_fld, k_ext, k_len, k_app, k_mn, k_mx, k_nilck, k_build, k_bsl1, k_bsl2, b_add, b_sub, b_mul, b_eql, b_neq, b_lss, b_leq, b_gtr, b_geq, Dn.setLast, Dn.getLast, evalO, mapO, Dn.get, putE, keepE, TV.one, TV.isAgg, Dn.part, f2, n1, w1, sh, w2]
  have := snap_bp bo H r c
  exact PFn.call f (args := [.bp bo (.agg (bM r c))]) (by simp [snapArgs, this])

structure Seen (r c : Nat) (l : List Int) (k seen : Nat) : Prop where
  ok : ∀ j, j < k → wayAt r c l j = true
  nd : (l.take k).Nodup
  lt : seen < 2 ^ (r * c)
  bit : ∀ t, t < r * c → (seen.testBit t = true ↔ ((t : Nat) : Int) ∈ l.take k)

theorem Seen.start (r c : Nat) (l : List Int) : Seen r c l 0 0 :=
  ⟨fun j hj => by omega, by simp, Nat.two_pow_pos _, fun t ht => by simp⟩

theorem Seen.step {r c : Nat} {l : List Int} {k seen s : Nat} (h : Seen r c l k seen) (hs : l[k]? = some (s : Int)) (hw : wayAt r c l k = true) (hb : seen.testBit s = false) : Seen r c l (k + 1) (seen ||| 2 ^ s) := by
  have hin := wayAt_in hw
  rw [List.getD_eq_getElem?_getD, hs] at hin
  have hsr : s < r * c := by have := hin.2; simp only [Option.getD_some] at this; omega
  have ht := take_snoc hs
  refine ⟨fun j hj => ?_, ?_, or_lt h.lt (Nat.pow_lt_pow_right (by decide) hsr), fun t htr => ?_⟩
  · by_cases hjk : j = k
    · subst hjk; exact hw
    · exact h.ok j (by omega)
  · rw [ht, nodup_snoc]
    refine ⟨h.nd, fun hm => ?_⟩
    rw [(h.bit s hsr).2 hm] at hb
    cases hb
  · rw [ht, Nat.testBit_or, Bool.or_eq_true, h.bit t htr, List.mem_append, List.mem_singleton, Nat.testBit_two_pow, decide_eq_true_eq]
    constructor
    · rintro (h1 | h1)
      · exact .inl h1
      · exact .inr (by omega)
    · rintro (h1 | h1)
      · exact .inl h1
      · exact .inr (by omega)

theorem l76_all {pg : Pg} (hF : Free pg) {r c : Nat} {bo : Bool} (h : Brd r c) {A : TV} {l : List Int} (hA : SV A l) (h64 : l.length ≤ 1000000) {H : Heap} : ∀ (d k seen : Nat), k + d = l.length → Seen r c l k seen →
    (∃ seen' e, Seen r c l l.length seen' ∧ den pg l76_1 [(0, .bp bo (.agg (bM r c))), (1, A), (5, .i .u64 (seen : Int)), (8, A), (9, .i .i64 (l.length : Int)), (10, .i .i64 (k : Int))] H = some ⟨.exit 0, e, H⟩ ∧ keepE [0, 5] e = [(0, .bp bo (.agg (bM r c))), (5, .i .u64 (seen' : Int))]) ∨
    (¬ ((∀ j, j < l.length → wayAt r c l j = true) ∧ l.Nodup) ∧ den pg l76_1 [(0, .bp bo (.agg (bM r c))), (1, A), (5, .i .u64 (seen : Int)), (8, A), (9, .i .i64 (l.length : Int)), (10, .i .i64 (k : Int))] H = some ⟨.ret, [(4, .b false)], H⟩) := by
  obtain ⟨BP, hBP⟩ : ∃ BP, BP = TV.bp bo (.agg (bM r c)) := ⟨_, rfl⟩
  have n1 : ∀ H, dkc pg (den pg) .nilck [BP] H = some (BP, H) := fun H => by rw [hBP]; exact k_nckB _ _ _
  have f2 : ∀ H, dkc pg (den pg) (.fadr 2 1 false) [BP] H = some (.bp bo (.i .i64 ((r * c : Nat) : Int)), H) := fun H => by rw [hBP]; exact k_fadrN _ _ _ _
  obtain ⟨MB, hMB⟩ : ∃ MB, MB = TV.bp bo (.agg (masks r c)) := ⟨_, rfl⟩
  have f3 : ∀ H, dkc pg (den pg) (.fadr 3 36 true) [BP] H = some (MB, H) := fun H => by rw [hBP, hMB]; exact k_fadrB _ _ _ _
  have hn := h.n36
  have h1n := lv64 h
  rw [← hBP]
  intro d
  induction d with
  | zero =>
    intro k seen hd hS
    obtain rfl : k = l.length := by omega
    refine .inl ⟨seen, _, hS, by
      rw [l76_1, den_loop]
      simp (disch := omega) [b76_0, go_nil, go_last, go_past, go_pastR, go_blkN, go_blkR, go_blkE, go_skip, go_exit, go_ret, go_scope, go_seq, go_reg, go_regd, go_opdN, go_opd, go_opdG, grdd_b, grdd_u, stpd_some, find_some, go_block, go_cond, cnd_b, go_opsN, go_ops, go_opsG, grd_b, grd_u, stp_some, fin_some, up_some, cont_some, k_call, k_mv, k_pick, k_bin, k_eqB, k_eqA, k_not, k_neg, k_conv, k_alloc, k_boxA, k_boxI, k_boxB, k_boxN, k_boxBs, k_ldR, k_ldA, k_ldI, k_ldB, k_stA, k_stI, k_stB, ldC_some, stC_some, k_mkfn, k_slc, k_slcA, k_ixA, k_ixBs, k_ixSl, k_fadr, k_fld, k_ext, k_len, k_app, k_mn, k_mx, k_nilck, k_build, k_bsl1, k_bsl2, b_add, b_sub, b_mul, b_eql, b_neq, b_lss, b_leq, b_gtr, b_geq, Dn.setLast, Dn.getLast, evalO, mapO, Dn.get, putE, keepE_nil, keepE_cons, kp_some, kp_none, TV.one, TV.isAgg, Dn.part, k_boxR, negb, at0, at1, at2, at3, at4, dT, dF, wrapR_i64, Option.bind_some, Option.map_some]
      rfl, rfl⟩
  | succ d ih =>
    intro k seen hd hS
    have hkl : k < l.length := by omega
    obtain ⟨p, p1, p2⟩ := ixI (pg := pg) (R := den pg) (hA.view H) (getD_some (l := l) (x := k) (by omega))
    have hg := getD_some (l := l) (x := k) (by omega)
    have hwd : wayAt r c l k = (decide (0 ≤ l.getD k 0) && decide (l.getD k 0 < ((r * c : Nat) : Int)) && (k == 0 || near c (l.getD (k - 1) 0).toNat (l.getD k 0).toNat)) := rfl
    have bad : wayAt r c l k = false → ¬ ((∀ j, j < l.length → wayAt r c l j = true) ∧ l.Nodup) := fun hw hc => by rw [hc.1 k hkl] at hw; cases hw
    have hlt := hS.lt
    generalize l.getD k 0 = x at *
    by_cases q1 : 0 ≤ x
    · by_cases q2 : x < ((r * c : Nat) : Int)
      · obtain ⟨s, rfl⟩ : ∃ s : Nat, x = (s : Int) := ⟨x.toNat, by omega⟩
        have hsr : s < r * c := by omega
        have ws := wrap_u (m := s) (by omega)
        obtain ⟨sd, b1, b2⟩ := bit_and (m := seen) (c := s) (by omega) (by omega)
        have sh := Dn.shl_u (k := .u64) (c := s) (by omega)
        have h2s : 2 ^ s < 18446744073709551616 := Nat.lt_of_lt_of_le (Nat.pow_lt_pow_right (by decide) hsr) h1n
        have o1 := or_uu (m := seen) (k := 2 ^ s) (by omega) h2s
        have dup : seen.testBit s = true → ¬ ((∀ j, j < l.length → wayAt r c l j = true) ∧ l.Nodup) := fun hb hc => by
          have hm := (hS.bit s hsr).1 hb
          have hnd := nodup_take hc.2 (k + 1)
          rw [take_snoc hg, nodup_snoc] at hnd
          exact hnd.2 hm
        cases hb : seen.testBit s with
        | true =>
          rw [hb] at b2
          simp only [if_true] at b2
          refine .inr ⟨dup hb, ?_⟩
          rw [l76_1, den_loop]
          simp (disch := omega) [b76_0, go_nil, go_last, go_past, go_pastR, go_blkN, go_blkR, go_blkE, go_skip, go_exit, go_ret, go_scope, go_seq, go_reg, go_regd, go_opdN, go_opd, go_opdG, grdd_b, grdd_u, stpd_some, find_some, go_block, go_cond, cnd_b, go_opsN, go_ops, go_opsG, grd_b, grd_u, stp_some, fin_some, up_some, cont_some, k_call, k_mv, k_pick, k_bin, k_eqB, k_eqA, k_not, k_neg, k_conv, k_alloc, k_boxA, k_boxI, k_boxB, k_boxN, k_boxBs, k_ldR, k_ldA, k_ldI, k_ldB, k_stA, k_stI, k_stB, ldC_some, stC_some, k_mkfn, k_slc, k_slcA, k_ixA, k_ixBs, k_ixSl, k_fadr, k_fld, k_ext, k_len, k_app, k_mn, k_mx, k_nilck, k_build, k_bsl1, k_bsl2, b_add, b_sub, b_mul, b_eql, b_neq, b_lss, b_leq, b_gtr, b_geq, Dn.setLast, Dn.getLast, evalO, mapO, Dn.get, putE, keepE_nil, keepE_cons, kp_some, kp_none, TV.one, TV.isAgg, Dn.part, k_boxR, negb, at0, at1, at2, at3, at4, dT, dF, wrapR_i64, Option.bind_some, Option.map_some, p1, p2, n1, f2, ws, b1, b2]
        | false =>
          rw [hb] at b2
          simp only [Bool.false_eq_true, if_false] at b2
          by_cases h0 : k = 0
          · subst h0
            have hw : wayAt r c l 0 = true := by rw [hwd]; simp; omega
            simp only [Int.natCast_zero] at p1
            refine (ih 1 (seen ||| 2 ^ s) (by omega) (hS.step hg hw hb)).imp (fun ⟨s', e, a1, a2, a3⟩ => ⟨s', e, a1, Eq.trans ?_ a2, a3⟩) (fun ⟨a1, a2⟩ => ⟨a1, Eq.trans ?_ a2⟩)
            · generalize seen ||| 2 ^ s = Z at *
              generalize 2 ^ s = Y at *
              have hl0 : decide ((0 : Int) < (l.length : Int)) = true := dT (by omega)
              rw [l76_1, den_loop]
              simp (disch := omega) [l76_1, b76_0, go_nil, go_last, go_past, go_pastR, go_blkN, go_blkR, go_blkE, go_skip, go_exit, go_ret, go_scope, go_seq, go_reg, go_regd, go_opdN, go_opd, go_opdG, grdd_b, grdd_u, stpd_some, find_some, go_block, go_cond, cnd_b, go_opsN, go_ops, go_opsG, grd_b, grd_u, stp_some, fin_some, up_some, cont_some, k_call, k_mv, k_pick, k_bin, k_eqB, k_eqA, k_not, k_neg, k_conv, k_alloc, k_boxA, k_boxI, k_boxB, k_boxN, k_boxBs, k_ldR, k_ldA, k_ldI, k_ldB, k_stA, k_stI, k_stB, ldC_some, stC_some, k_mkfn, k_slc, k_slcA, k_ixA, k_ixBs, k_ixSl, k_fadr, k_fld, k_ext, k_len, k_app, k_mn, k_mx, k_nilck, k_build, k_bsl1, k_bsl2, b_add, b_sub, b_mul, b_eql, b_neq, b_lss, b_leq, b_gtr, b_geq, Dn.setLast, Dn.getLast, evalO, mapO, Dn.get, putE, keepE_nil, keepE_cons, kp_some, kp_none, TV.one, TV.isAgg, Dn.part, k_boxR, negb, at0, at1, at2, at3, at4, dT, dF, wrapR_i64, Option.bind_some, Option.map_some, p1, p2, n1, f2, ws, b1, b2, sh, o1, show ((1 : Nat) : Int) = 1 from rfl, hl0]
            · generalize seen ||| 2 ^ s = Z at *
              generalize 2 ^ s = Y at *
              have hl0 : decide ((0 : Int) < (l.length : Int)) = true := dT (by omega)
              rw [l76_1, den_loop]
              simp (disch := omega) [l76_1, b76_0, go_nil, go_last, go_past, go_pastR, go_blkN, go_blkR, go_blkE, go_skip, go_exit, go_ret, go_scope, go_seq, go_reg, go_regd, go_opdN, go_opd, go_opdG, grdd_b, grdd_u, stpd_some, find_some, go_block, go_cond, cnd_b, go_opsN, go_ops, go_opsG, grd_b, grd_u, stp_some, fin_some, up_some, cont_some, k_call, k_mv, k_pick, k_bin, k_eqB, k_eqA, k_not, k_neg, k_conv, k_alloc, k_boxA, k_boxI, k_boxB, k_boxN, k_boxBs, k_ldR, k_ldA, k_ldI, k_ldB, k_stA, k_stI, k_stB, ldC_some, stC_some, k_mkfn, k_slc, k_slcA, k_ixA, k_ixBs, k_ixSl, k_fadr, k_fld, k_ext, k_len, k_app, k_mn, k_mx, k_nilck, k_build, k_bsl1, k_bsl2, b_add, b_sub, b_mul, b_eql, b_neq, b_lss, b_leq, b_gtr, b_geq, Dn.setLast, Dn.getLast, evalO, mapO, Dn.get, putE, keepE_nil, keepE_cons, kp_some, kp_none, TV.one, TV.isAgg, Dn.part, k_boxR, negb, at0, at1, at2, at3, at4, dT, dF, wrapR_i64, Option.bind_some, Option.map_some, p1, p2, n1, f2, ws, b1, b2, sh, o1, show ((1 : Nat) : Int) = 1 from rfl, hl0]
          · obtain ⟨j, rfl⟩ : ∃ j, k = j + 1 := ⟨k - 1, by omega⟩
            have hpj := wayAt_in (hS.ok j (by omega))
            obtain ⟨u, u1, u2⟩ := ixI (pg := pg) (R := den pg) (hA.view H) (getD_some (l := l) (x := j) (by omega))
            rw [Nat.add_sub_cancel] at hwd
            generalize l.getD j 0 = y at *
            obtain ⟨t, rfl⟩ : ∃ t : Nat, y = (t : Int) := ⟨y.toNat, by omega⟩
            have htr : t < r * c := by omega
            have ix := fun H => k_ixAM (pg := pg) (R := den pg) h htr bo .i64 H
            rw [← hMB] at ix
            have hmv := mv_bound h htr
            obtain ⟨td, t1, t2⟩ := bit_and (m := mv r c t) (c := s) (by omega) (by omega)
            rw [mv_near h htr hsr] at t2
            simp only [Int.toNat_natCast] at hwd
            have wk : wrapR .i64 (((j + 1 : Nat) : Int) - 1) = .i .i64 (j : Int) := by rw [show ((j + 1 : Nat) : Int) - 1 = (j : Int) by omega]; exact wrapR_i64 (by omega)
            have hgt : decide ((0 : Int) < ((j + 1 : Nat) : Int)) = true := dT (by omega)
            have hkl' : decide (((j + 1 : Nat) : Int) < (l.length : Int)) = true := dT (by omega)
            have wk2 : wrapR .i64 (((j + 1 : Nat) : Int) + 1) = .i .i64 ((j + 1 + 1 : Nat) : Int) := by rw [show ((j + 1 : Nat) : Int) + 1 = ((j + 1 + 1 : Nat) : Int) by omega]; exact wrapR_i64 (by omega)
            cases hnr : near c t s with
            | true =>
              rw [hnr] at t2 hwd
              simp only [if_true] at t2
              have hw : wayAt r c l (j + 1) = true := by rw [hwd]; simp; omega
              refine (ih (j + 1 + 1) (seen ||| 2 ^ s) (by omega) (hS.step hg hw hb)).imp (fun ⟨s', e, a1, a2, a3⟩ => ⟨s', e, a1, Eq.trans ?_ a2, a3⟩) (fun ⟨a1, a2⟩ => ⟨a1, Eq.trans ?_ a2⟩)
              · generalize ((j + 1 : Nat) : Int) = K1 at *
                generalize seen ||| 2 ^ s = Z at *
                generalize 2 ^ s = Y at *
                generalize mv r c t = MT at *
                rw [l76_1, den_loop]
                simp (disch := omega) [l76_1, b76_0, go_nil, go_last, go_past, go_pastR, go_blkN, go_blkR, go_blkE, go_skip, go_exit, go_ret, go_scope, go_seq, go_reg, go_regd, go_opdN, go_opd, go_opdG, grdd_b, grdd_u, stpd_some, find_some, go_block, go_cond, cnd_b, go_opsN, go_ops, go_opsG, grd_b, grd_u, stp_some, fin_some, up_some, cont_some, k_call, k_mv, k_pick, k_bin, k_eqB, k_eqA, k_not, k_neg, k_conv, k_alloc, k_boxA, k_boxI, k_boxB, k_boxN, k_boxBs, k_ldR, k_ldA, k_ldI, k_ldB, k_stA, k_stI, k_stB, ldC_some, stC_some, k_mkfn, k_slc, k_slcA, k_ixA, k_ixBs, k_ixSl, k_fadr, k_fld, k_ext, k_len, k_app, k_mn, k_mx, k_nilck, k_build, k_bsl1, k_bsl2, b_add, b_sub, b_mul, b_eql, b_neq, b_lss, b_leq, b_gtr, b_geq, Dn.setLast, Dn.getLast, evalO, mapO, Dn.get, putE, keepE_nil, keepE_cons, kp_some, kp_none, TV.one, TV.isAgg, Dn.part, k_boxR, negb, at0, at1, at2, at3, at4, dT, dF, wrapR_i64, Option.bind_some, Option.map_some, p1, p2, n1, f2, f3, ix, u1, u2, t1, t2, ws, b1, b2, sh, o1, wk, hgt, hkl', wk2]
              · generalize ((j + 1 : Nat) : Int) = K1 at *
                generalize seen ||| 2 ^ s = Z at *
                generalize 2 ^ s = Y at *
                generalize mv r c t = MT at *
                rw [l76_1, den_loop]
                simp (disch := omega) [l76_1, b76_0, go_nil, go_last, go_past, go_pastR, go_blkN, go_blkR, go_blkE, go_skip, go_exit, go_ret, go_scope, go_seq, go_reg, go_regd, go_opdN, go_opd, go_opdG, grdd_b, grdd_u, stpd_some, find_some, go_block, go_cond, cnd_b, go_opsN, go_ops, go_opsG, grd_b, grd_u, stp_some, fin_some, up_some, cont_some, k_call, k_mv, k_pick, k_bin, k_eqB, k_eqA, k_not, k_neg, k_conv, k_alloc, k_boxA, k_boxI, k_boxB, k_boxN, k_boxBs, k_ldR, k_ldA, k_ldI, k_ldB, k_stA, k_stI, k_stB, ldC_some, stC_some, k_mkfn, k_slc, k_slcA, k_ixA, k_ixBs, k_ixSl, k_fadr, k_fld, k_ext, k_len, k_app, k_mn, k_mx, k_nilck, k_build, k_bsl1, k_bsl2, b_add, b_sub, b_mul, b_eql, b_neq, b_lss, b_leq, b_gtr, b_geq, Dn.setLast, Dn.getLast, evalO, mapO, Dn.get, putE, keepE_nil, keepE_cons, kp_some, kp_none, TV.one, TV.isAgg, Dn.part, k_boxR, negb, at0, at1, at2, at3, at4, dT, dF, wrapR_i64, Option.bind_some, Option.map_some, p1, p2, n1, f2, f3, ix, u1, u2, t1, t2, ws, b1, b2, sh, o1, wk, hgt, hkl', wk2]
            | false =>
              rw [hnr] at t2 hwd
              simp only [Bool.false_eq_true, if_false] at t2
              refine .inr ⟨bad (by rw [hwd, show ((j + 1 == 0) : Bool) = false from rfl]; simp), ?_⟩
              generalize ((j + 1 : Nat) : Int) = K1 at *
              generalize seen ||| 2 ^ s = Z at *
              generalize 2 ^ s = Y at *
              generalize mv r c t = MT at *
              rw [l76_1, den_loop]
              simp (disch := omega) [b76_0, go_nil, go_last, go_past, go_pastR, go_blkN, go_blkR, go_blkE, go_skip, go_exit, go_ret, go_scope, go_seq, go_reg, go_regd, go_opdN, go_opd, go_opdG, grdd_b, grdd_u, stpd_some, find_some, go_block, go_cond, cnd_b, go_opsN, go_ops, go_opsG, grd_b, grd_u, stp_some, fin_some, up_some, cont_some, k_call, k_mv, k_pick, k_bin, k_eqB, k_eqA, k_not, k_neg, k_conv, k_alloc, k_boxA, k_boxI, k_boxB, k_boxN, k_boxBs, k_ldR, k_ldA, k_ldI, k_ldB, k_stA, k_stI, k_stB, ldC_some, stC_some, k_mkfn, k_slc, k_slcA, k_ixA, k_ixBs, k_ixSl, k_fadr, k_fld, k_ext, k_len, k_app, k_mn, k_mx, k_nilck, k_build, k_bsl1, k_bsl2, b_add, b_sub, b_mul, b_eql, b_neq, b_lss, b_leq, b_gtr, b_geq, Dn.setLast, Dn.getLast, evalO, mapO, Dn.get, putE, keepE_nil, keepE_cons, kp_some, kp_none, TV.one, TV.isAgg, Dn.part, k_boxR, negb, at0, at1, at2, at3, at4, dT, dF, wrapR_i64, Option.bind_some, Option.map_some, p1, p2, n1, f2, f3, ix, u1, u2, t1, t2, ws, b1, b2, wk, hgt, hkl']
      · refine .inr ⟨bad (by rw [hwd, dF q2]; simp), ?_⟩
        rw [l76_1, den_loop]
        simp (disch := omega) [b76_0, go_nil, go_last, go_past, go_pastR, go_blkN, go_blkR, go_blkE, go_skip, go_exit, go_ret, go_scope, go_seq, go_reg, go_regd, go_opdN, go_opd, go_opdG, grdd_b, grdd_u, stpd_some, find_some, go_block, go_cond, cnd_b, go_opsN, go_ops, go_opsG, grd_b, grd_u, stp_some, fin_some, up_some, cont_some, k_call, k_mv, k_pick, k_bin, k_eqB, k_eqA, k_not, k_neg, k_conv, k_alloc, k_boxA, k_boxI, k_boxB, k_boxN, k_boxBs, k_ldR, k_ldA, k_ldI, k_ldB, k_stA, k_stI, k_stB, ldC_some, stC_some, k_mkfn, k_slc, k_slcA, k_ixA, k_ixBs, k_ixSl, k_fadr, k_fld, k_ext, k_len, k_app, k_mn, k_mx, k_nilck, k_build, k_bsl1, k_bsl2, b_add, b_sub, b_mul, b_eql, b_neq, b_lss, b_leq, b_gtr, b_geq, Dn.setLast, Dn.getLast, evalO, mapO, Dn.get, putE, keepE_nil, keepE_cons, kp_some, kp_none, TV.one, TV.isAgg, Dn.part, k_boxR, negb, at0, at1, at2, at3, at4, dT, dF, wrapR_i64, Option.bind_some, Option.map_some, p1, p2, n1, f2]
    · refine .inr ⟨bad (by rw [hwd, dF q1]; simp), ?_⟩
      rw [l76_1, den_loop]
      simp (disch := omega) [b76_0, go_nil, go_last, go_past, go_pastR, go_blkN, go_blkR, go_blkE, go_skip, go_exit, go_ret, go_scope, go_seq, go_reg, go_regd, go_opdN, go_opd, go_opdG, grdd_b, grdd_u, stpd_some, find_some, go_block, go_cond, cnd_b, go_opsN, go_ops, go_opsG, grd_b, grd_u, stp_some, fin_some, up_some, cont_some, k_call, k_mv, k_pick, k_bin, k_eqB, k_eqA, k_not, k_neg, k_conv, k_alloc, k_boxA, k_boxI, k_boxB, k_boxN, k_boxBs, k_ldR, k_ldA, k_ldI, k_ldB, k_stA, k_stI, k_stB, ldC_some, stC_some, k_mkfn, k_slc, k_slcA, k_ixA, k_ixBs, k_ixSl, k_fadr, k_fld, k_ext, k_len, k_app, k_mn, k_mx, k_nilck, k_build, k_bsl1, k_bsl2, b_add, b_sub, b_mul, b_eql, b_neq, b_lss, b_leq, b_gtr, b_geq, Dn.setLast, Dn.getLast, evalO, mapO, Dn.get, putE, keepE_nil, keepE_cons, kp_some, kp_none, TV.one, TV.isAgg, Dn.part, k_boxR, negb, at0, at1, at2, at3, at4, dT, dF, wrapR_i64, Option.bind_some, Option.map_some, p1, p2, n1, f2]

theorem fn76 {pg : Pg} (hF : Free pg) {r c : Nat} {bo : Bool} (h : Brd r c) {A : TV} {l : List Int} (hA : SV A l) (h64 : l.length ≤ 1000000) : PFn pg 76 [.bp bo (.agg (bM r c)), A] (.b (tourB r c l)) := by
  have hlen := fun K => (hA.view K).lenK K
  have hn := h.n36
  have h1n := lv64 h
  refine .inr ⟨hF.S _ _ (by decide), .b (tourB r c l), [], body_of (x := .ret) (e := [(4, .b (tourB r c l))]) (d := d76) (by rw [hF.F]; rfl) rfl ?_ (.inl rfl) rfl, sn_b _ _ _⟩
  have c81 := call81 (pg := pg) (bo := bo) hF h []
  rcases l76_all (pg := pg) (bo := bo) (H := []) hF h hA h64 l.length 0 0 (by omega) (Seen.start r c l) with ⟨seen, e, k1, k2, k3⟩ | ⟨k1, k2⟩
  · simp only [Int.natCast_zero] at k2
    have g0 := keep_get k3 (s := 0) (by simp) rfl
    have g5 := keep_get k3 (s := 5) (by simp) rfl
    have hnd : l.Nodup := by have := k1.nd; rwa [List.take_length] at this
    have hall := all_there hnd (all_in k1.ok)
    have hpos : 1 ≤ r * c := Nat.mul_pos h.r1 h.c1
    have heq : tourB r c l = ((seen : Int) == ((2 ^ (r * c) - 1 : Nat) : Int)) := by
      unfold tourB isWay
      rw [List.all_eq_true.2 fun j hj => k1.ok j (List.mem_range.1 hj), Bool.true_and, dT hnd, Bool.and_true]
      by_cases hl : l.length = r * c
      · rw [dT hl, dT (by omega)]
        have : seen = 2 ^ (r * c) - 1 := by
          apply Nat.eq_of_testBit_eq
          intro t
          rw [Nat.testBit_two_pow_sub_one]
          by_cases ht : t < r * c
          · rw [dT ht]
            have := hall.2 hl t ht
            exact (k1.bit t ht).2 (by rwa [List.take_length])
          · rw [dF ht]
            exact Nat.testBit_lt_two_pow (Nat.lt_of_lt_of_le k1.lt (Nat.pow_le_pow_right (by decide) (by omega)))
        rw [beqT (by omega)]; rfl
      · rw [dF hl]
        refine (beqF fun he => hl ?_).symm
        refine hall.1 fun t ht => ?_
        have he' : seen = 2 ^ (r * c) - 1 := by omega
        have := (k1.bit t ht).1 (by rw [he', Nat.testBit_two_pow_sub_one, dT ht])
        rwa [List.take_length] at this
    rw [heq]
    generalize ((2 ^ (r * c) - 1 : Nat) : Int) = V at *
    generalize TV.agg (bM r c) = BM at *
    simp (disch := omega) [d76, c76, zipE, go_nil, go_last, go_past, go_pastR, go_blkN, go_blkR, go_blkE, go_skip, go_exit, go_ret, go_scope, go_seq, go_reg, go_regd, go_opdN, go_opd, go_opdG, grdd_b, grdd_u, stpd_some, find_some, go_block, go_cond, cnd_b, go_opsN, go_ops, go_opsG, grd_b, grd_u, stp_some, fin_some, up_some, cont_some, k_call, k_mv, k_pick, k_bin, k_eqB, k_eqA, k_not, k_neg, k_conv, k_alloc, k_boxA, k_boxI, k_boxB, k_boxN, k_boxBs, k_ldR, k_ldA, k_ldI, k_ldB, k_stA, k_stI, k_stB, ldC_some, stC_some, k_mkfn, k_slc, k_slcA, k_ixA, k_ixBs, k_ixSl, k_fadr, k_fld, k_ext, k_len, k_app, k_mn, k_mx, k_nilck, k_build, k_bsl1, k_bsl2, b_add, b_sub, b_mul, b_eql, b_neq, b_lss, b_leq, b_gtr, b_geq, Dn.setLast, Dn.getLast, evalO, mapO, Dn.get, putE, keepE_nil, keepE_cons, kp_some, kp_none, TV.one, TV.isAgg, Dn.part, k_boxR, negb, at0, at1, at2, at3, at4, dT, dF, wrapR_i64, Option.bind_some, Option.map_some, go_denK (c := l76_1) rfl, k2, g0, g5, hlen, c81]
  · have hf : tourB r c l = false := by
      cases ht : tourB r c l with
      | false => rfl
      | true =>
        unfold tourB isWay at ht
        simp only [Bool.and_eq_true, decide_eq_true_eq, List.all_eq_true, List.mem_range] at ht
        exact (k1 ⟨ht.1.2.1, ht.2⟩).elim
    rw [hf]
    simp only [Int.natCast_zero] at k2
    generalize TV.agg (bM r c) = BM at *
    simp (disch := omega) [d76, c76, zipE, go_nil, go_last, go_past, go_pastR, go_blkN, go_blkR, go_blkE, go_skip, go_exit, go_ret, go_scope, go_seq, go_reg, go_regd, go_opdN, go_opd, go_opdG, grdd_b, grdd_u, stpd_some, find_some, go_block, go_cond, cnd_b, go_opsN, go_ops, go_opsG, grd_b, grd_u, stp_some, fin_some, up_some, cont_some, k_call, k_mv, k_pick, k_bin, k_eqB, k_eqA, k_not, k_neg, k_conv, k_alloc, k_boxA, k_boxI, k_boxB, k_boxN, k_boxBs, k_ldR, k_ldA, k_ldI, k_ldB, k_stA, k_stI, k_stB, ldC_some, stC_some, k_mkfn, k_slc, k_slcA, k_ixA, k_ixBs, k_ixSl, k_fadr, k_fld, k_ext, k_len, k_app, k_mn, k_mx, k_nilck, k_build, k_bsl1, k_bsl2, b_add, b_sub, b_mul, b_eql, b_neq, b_lss, b_leq, b_gtr, b_geq, Dn.setLast, Dn.getLast, evalO, mapO, Dn.get, putE, keepE_nil, keepE_cons, kp_some, kp_none, TV.one, TV.isAgg, Dn.part, k_boxR, negb, at0, at1, at2, at3, at4, dT, dF, wrapR_i64, Option.bind_some, Option.map_some, go_denK (c := l76_1) rfl, k2, hlen]

end Go.Proofs.Tryd.Dn

/-
  Knight: the law of tours, run.
-/

namespace Go.Proofs.Tryd.Dn
open Go.Dn

theorem tourB_len {r c : Nat} {l : List Int} (h : tourB r c l = true) : l.length = r * c := by
  unfold tourB at h
  simp only [Bool.and_eq_true, decide_eq_true_eq] at h
  exact h.1.1

theorem tourB_at {r c : Nat} {l : List Int} (h : tourB r c l = true) {i : Nat} (hi : i < l.length) : ∃ s : Nat, l[i]? = some (s : Int) ∧ s < r * c ∧ l.getD i 0 = (s : Int) := by
  unfold tourB isWay at h
  simp only [Bool.and_eq_true, decide_eq_true_eq, List.all_eq_true, List.mem_range] at h
  have hw := wayAt_in (h.1.2.1 i hi)
  refine ⟨(l.getD i 0).toNat, ?_, by omega, by omega⟩
  rw [getD_some hi]
  congr 1
  omega

theorem Bv.call76 {pg : Pg} (hF : Free pg) {r c : Nat} {H : Heap} {BV A A' : TV} {l : List Int} (hb : Bv r c H BV) (h : Brd r c) (hA : snap .borrow H 9 A = some A') (hA' : SV A' l) (h64 : l.length ≤ 1000000) :
    callRun pg (den pg) (.pu []) [.fn 76 [] [], BV, A] H = some (.b (tourB r c l), H) := by
  unfold Bv at hb
  exact PFn.call (fn76 hF (bo := true) h hA' h64) (args := [BV, A]) (by simp [snapArgs, hA, hb])

theorem sv_snapB {A : TV} {l : List Int} (hA : SV A l) : ∃ A', (∀ H, snap .borrow H 9 A = some A') ∧ SV A' l := by
  rcases hA with ⟨rfl, rfl⟩ | ⟨b, rfl⟩
  · exact ⟨.nilsl, fun H => sn_nil _ _, .inl ⟨rfl, rfl⟩⟩
  · refine ⟨.bs true 1 (l.map elI.val), fun H => ?_, .inr ⟨true, rfl⟩⟩
    rw [snS_bsB, mapO_map (f := elI.val) (k := elI.val) (l := l) fun a _ => snS_i _ _ _ _ _, Option.map_some]

theorem fn77 {pg : Pg} (hF : Free pg) {r c : Nat} {bo : Bool} (h : Brd r c) {A : TV} {l : List Int} (hA : SV A l) (h64 : l.length ≤ 1000000) : PFn pg 77 [.bp bo (.agg (bM r c)), A] (.b (closedB r c l)) := by
  have hn := h.n36
  have h1n := lv64 h
  have hpos : 1 ≤ r * c := Nat.mul_pos h.r1 h.c1
  obtain ⟨A', sA, hA'⟩ := sv_snapB hA
  have c76 := Bv.call76 (pg := pg) hF (Bv.bp r c [] bo) h (sA []) hA' h64
  obtain ⟨BP, hBP⟩ : ∃ BP, BP = TV.bp bo (.agg (bM r c)) := ⟨_, rfl⟩
  obtain ⟨MB, hMB⟩ : ∃ MB, MB = TV.bp bo (.agg (masks r c)) := ⟨_, rfl⟩
  have n1 : ∀ H, dkc pg (den pg) .nilck [BP] H = some (BP, H) := fun H => by rw [hBP]; exact k_nckB _ _ _
  have f3 : ∀ H, dkc pg (den pg) (.fadr 3 36 true) [BP] H = some (MB, H) := fun H => by rw [hBP, hMB]; exact k_fadrB _ _ _ _
  have hlen := fun K => (hA.view K).lenK K
  rw [← hBP] at c76 ⊢
  refine .inr ⟨hF.S _ _ (by decide), .b (closedB r c l), [], body_of (x := .ret) (e := [(4, .b (closedB r c l))]) (d := d77) (by rw [hF.F]; rfl) rfl ?_ (.inl rfl) rfl, sn_b _ _ _⟩
  unfold closedB
  cases ht : tourB r c l with
  | false =>
    rw [ht] at c76
    simp (disch := omega) [d77, c77, zipE, go_nil, go_last, go_past, go_pastR, go_blkN, go_blkR, go_blkE, go_skip, go_exit, go_ret, go_scope, go_seq, go_reg, go_regd, go_opdN, go_opd, go_opdG, grdd_b, grdd_u, stpd_some, find_some, go_block, go_cond, cnd_b, go_opsN, go_ops, go_opsG, grd_b, grd_u, stp_some, fin_some, up_some, cont_some, k_call, k_mv, k_pick, k_bin, k_eqB, k_eqA, k_not, k_neg, k_conv, k_alloc, k_boxA, k_boxI, k_boxB, k_boxN, k_boxBs, k_ldR, k_ldA, k_ldI, k_ldB, k_stA, k_stI, k_stB, ldC_some, stC_some, k_mkfn, k_slc, k_slcA, k_ixA, k_ixBs, k_ixSl, k_fadr, k_fld, k_ext, k_len, k_app, k_mn, k_mx, k_nilck, k_build, k_bsl1, k_bsl2, b_add, b_sub, b_mul, b_eql, b_neq, b_lss, b_leq, b_gtr, b_geq, Dn.setLast, Dn.getLast, evalO, mapO, Dn.get, putE, keepE_nil, keepE_cons, kp_some, kp_none, TV.one, TV.isAgg, Dn.part, k_boxR, negb, at0, at1, at2, at3, at4, dT, dF, wrapR_i64, Option.bind_some, Option.map_some, c76]
  | true =>
    rw [ht] at c76
    have hl := tourB_len ht
    obtain ⟨s, s1, s2, s3⟩ := tourB_at ht (i := 0) (by omega)
    obtain ⟨t, t1, t2, t3⟩ := tourB_at ht (i := l.length - 1) (by omega)
    obtain ⟨p, p1, p2⟩ := ixI (pg := pg) (R := den pg) (hA.view []) s1
    obtain ⟨q, q1, q2⟩ := ixI (pg := pg) (R := den pg) (hA.view []) t1
    have ix := fun H => k_ixAM (pg := pg) (R := den pg) h s2 bo .i64 H
    rw [← hMB] at ix
    have hmv := mv_bound h s2
    obtain ⟨td, b1, b2⟩ := bit_and (m := mv r c s) (c := t) (by omega) (by omega)
    rw [mv_near h s2 t2] at b2
    have he : endsB c l = near c s t := by unfold endsB; rw [s3, t3]; rfl
    rw [he]
    have ws := wrap_u (m := t) (by omega)
    have wl : wrapR .i64 ((l.length : Int) - 1) = .i .i64 ((l.length - 1 : Nat) : Int) := by rw [show (l.length : Int) - 1 = ((l.length - 1 : Nat) : Int) by omega]; exact wrapR_i64 (by omega)
    simp only [Int.natCast_zero] at p1
    generalize ((l.length - 1 : Nat) : Int) = LL at *
    generalize mv r c s = MM at *
    cases hnr : near c s t with
    | true =>
      rw [hnr] at b2
      simp only [if_true] at b2
      simp (disch := omega) [d77, c77, zipE, go_nil, go_last, go_past, go_pastR, go_blkN, go_blkR, go_blkE, go_skip, go_exit, go_ret, go_scope, go_seq, go_reg, go_regd, go_opdN, go_opd, go_opdG, grdd_b, grdd_u, stpd_some, find_some, go_block, go_cond, cnd_b, go_opsN, go_ops, go_opsG, grd_b, grd_u, stp_some, fin_some, up_some, cont_some, k_call, k_mv, k_pick, k_bin, k_eqB, k_eqA, k_not, k_neg, k_conv, k_alloc, k_boxA, k_boxI, k_boxB, k_boxN, k_boxBs, k_ldR, k_ldA, k_ldI, k_ldB, k_stA, k_stI, k_stB, ldC_some, stC_some, k_mkfn, k_slc, k_slcA, k_ixA, k_ixBs, k_ixSl, k_fadr, k_fld, k_ext, k_len, k_app, k_mn, k_mx, k_nilck, k_build, k_bsl1, k_bsl2, b_add, b_sub, b_mul, b_eql, b_neq, b_lss, b_leq, b_gtr, b_geq, Dn.setLast, Dn.getLast, evalO, mapO, Dn.get, putE, keepE_nil, keepE_cons, kp_some, kp_none, TV.one, TV.isAgg, Dn.part, k_boxR, negb, at0, at1, at2, at3, at4, dT, dF, wrapR_i64, Option.bind_some, Option.map_some, c76, p1, p2, n1, f3, ix, hlen, wl, q1, q2, ws, b1, b2]
    | false =>
      rw [hnr] at b2
      simp only [Bool.false_eq_true, if_false] at b2
      simp (disch := omega) [d77, c77, zipE, go_nil, go_last, go_past, go_pastR, go_blkN, go_blkR, go_blkE, go_skip, go_exit, go_ret, go_scope, go_seq, go_reg, go_regd, go_opdN, go_opd, go_opdG, grdd_b, grdd_u, stpd_some, find_some, go_block, go_cond, cnd_b, go_opsN, go_ops, go_opsG, grd_b, grd_u, stp_some, fin_some, up_some, cont_some, k_call, k_mv, k_pick, k_bin, k_eqB, k_eqA, k_not, k_neg, k_conv, k_alloc, k_boxA, k_boxI, k_boxB, k_boxN, k_boxBs, k_ldR, k_ldA, k_ldI, k_ldB, k_stA, k_stI, k_stB, ldC_some, stC_some, k_mkfn, k_slc, k_slcA, k_ixA, k_ixBs, k_ixSl, k_fadr, k_fld, k_ext, k_len, k_app, k_mn, k_mx, k_nilck, k_build, k_bsl1, k_bsl2, b_add, b_sub, b_mul, b_eql, b_neq, b_lss, b_leq, b_gtr, b_geq, Dn.setLast, Dn.getLast, evalO, mapO, Dn.get, putE, keepE_nil, keepE_cons, kp_some, kp_none, TV.one, TV.isAgg, Dn.part, k_boxR, negb, at0, at1, at2, at3, at4, dT, dF, wrapR_i64, Option.bind_some, Option.map_some, c76, p1, p2, n1, f3, ix, hlen, wl, q1, q2, ws, b1, b2]

theorem Bv.call77 {pg : Pg} (hF : Free pg) {r c : Nat} {H : Heap} {BV A A' : TV} {l : List Int} (hb : Bv r c H BV) (h : Brd r c) (hA : snap .borrow H 9 A = some A') (hA' : SV A' l) (h64 : l.length ≤ 1000000) :
    callRun pg (den pg) (.pu []) [.fn 77 [] [], BV, A] H = some (.b (closedB r c l), H) := by
  unfold Bv at hb
  exact PFn.call (fn77 hF (bo := true) h hA' h64) (args := [BV, A]) (by simp [snapArgs, hA, hb])

theorem body59n {pg : Pg} (hF : Free pg) {r c : Nat} (h : Brd r c) (H : Heap) : ∃ H', bodyRun pg (den pg) 59 [.i .i64 (r : Int), .i .i64 (c : Int), .nilsl] H = some (.tup [.ref H.length 0, .i .i64 0], H') ∧
    H'[H.length]? = some (.cells (bM r c) true) ∧ H.length < H'.length ∧ ∀ m, m < H.length → H'[m]? = H[m]? := by
  obtain ⟨H', h1, h2⟩ := body59 (pg := pg) hF h (t := .nilsl) (ps := []) (H := H) (.inl ⟨rfl, rfl⟩) (by simp)
  exact ⟨H', by simpa using h1, h2⟩

theorem fn51 {pg : Pg} (hF : Free pg) {r c : Nat} (h : Brd r c) {A : TV} {l : List Int} (hA : SV A l) (h64 : l.length ≤ 1000000) : PFn pg 51 [.i .i64 (r : Int), .i .i64 (c : Int), A] (.tup (if tourB r c l = true then [.b (endsB c l), .i .i64 0] else [.b false, .i .i64 60])) := by
  obtain ⟨H1, h1, h2, h3, h4⟩ := body59n (pg := pg) hF h []
  simp only [List.length_nil] at h1 h2
  obtain ⟨A', sA, hA'⟩ := sv_snapB hA
  have hd : pg.F 51 = some d51 := by rw [hF.F]; rfl
  have c76 := Bv.call76 (pg := pg) hF (Bv.ref h2) h (sA H1) hA' h64
  have c77 := Bv.call77 (pg := pg) hF (Bv.ref h2) h (sA H1) hA' h64
  unfold closedB at c77
  cases ht : tourB r c l with
  | false =>
    rw [ht] at c76
    simp only [Bool.false_eq_true, if_false]
    refine .of2 (x := .ret) (e := [(6, .b false), (7, .i .i64 60)]) (H' := H1) (hF.S _ _ (by decide)) hd rfl ?_ (.inl rfl) rfl (by simp) (by simp [sn_i, sn_b, sn_nil, sn8_i, sn8_b, sn8_nil, sn7_i, sn7_b, sn_sl, sn8_sl, slB_some, sn_tup, sn_agg, sn8_agg, mapO, elems])
    simp (disch := omega) [d51, c51, zipE, go_nil, go_last, go_past, go_pastR, go_blkN, go_blkR, go_blkE, go_skip, go_exit, go_ret, go_scope, go_seq, go_reg, go_regd, go_opdN, go_opd, go_opdG, grdd_b, grdd_u, stpd_some, find_some, go_block, go_cond, cnd_b, go_opsN, go_ops, go_opsG, grd_b, grd_u, stp_some, fin_some, up_some, cont_some, k_call, k_mv, k_pick, k_bin, k_eqB, k_eqA, k_not, k_neg, k_conv, k_alloc, k_boxA, k_boxI, k_boxB, k_boxN, k_boxBs, k_ldR, k_ldA, k_ldI, k_ldB, k_stA, k_stI, k_stB, ldC_some, stC_some, k_mkfn, k_slc, k_slcA, k_ixA, k_ixBs, k_ixSl, k_fadr, k_fld, k_ext, k_len, k_app, k_mn, k_mx, k_nilck, k_build, k_bsl1, k_bsl2, b_add, b_sub, b_mul, b_eql, b_neq, b_lss, b_leq, b_gtr, b_geq, Dn.setLast, Dn.getLast, evalO, mapO, Dn.get, putE, keepE_nil, keepE_cons, kp_some, kp_none, TV.one, TV.isAgg, Dn.part, k_boxR, negb, at0, at1, at2, at3, at4, dT, dF, wrapR_i64, Option.bind_some, Option.map_some, sh_fn, h1, c76]
  | true =>
    rw [ht] at c76 c77
    rw [Bool.true_and] at c77
    simp only [if_true]
    refine .of2 (x := .ret) (e := [(6, .b (endsB c l)), (7, .i .i64 0)]) (H' := H1) (hF.S _ _ (by decide)) hd rfl ?_ (.inl rfl) rfl (by simp) (by simp [sn_i, sn_b, sn_nil, sn8_i, sn8_b, sn8_nil, sn7_i, sn7_b, sn_sl, sn8_sl, slB_some, sn_tup, sn_agg, sn8_agg, mapO, elems])
    simp (disch := omega) [d51, c51, zipE, go_nil, go_last, go_past, go_pastR, go_blkN, go_blkR, go_blkE, go_skip, go_exit, go_ret, go_scope, go_seq, go_reg, go_regd, go_opdN, go_opd, go_opdG, grdd_b, grdd_u, stpd_some, find_some, go_block, go_cond, cnd_b, go_opsN, go_ops, go_opsG, grd_b, grd_u, stp_some, fin_some, up_some, cont_some, k_call, k_mv, k_pick, k_bin, k_eqB, k_eqA, k_not, k_neg, k_conv, k_alloc, k_boxA, k_boxI, k_boxB, k_boxN, k_boxBs, k_ldR, k_ldA, k_ldI, k_ldB, k_stA, k_stI, k_stB, ldC_some, stC_some, k_mkfn, k_slc, k_slcA, k_ixA, k_ixBs, k_ixSl, k_fadr, k_fld, k_ext, k_len, k_app, k_mn, k_mx, k_nilck, k_build, k_bsl1, k_bsl2, b_add, b_sub, b_mul, b_eql, b_neq, b_lss, b_leq, b_gtr, b_geq, Dn.setLast, Dn.getLast, evalO, mapO, Dn.get, putE, keepE_nil, keepE_cons, kp_some, kp_none, TV.one, TV.isAgg, Dn.part, k_boxR, negb, at0, at1, at2, at3, at4, dT, dF, wrapR_i64, Option.bind_some, Option.map_some, sh_fn, h1, c76, c77]

/-! the reference -/
theorem l23_all {pg : Pg} {r c : Nat} (h : Brd r c) {A M : TV} {l : List Int} (hA : SV A l) (h64 : l.length ≤ 1000000) (hin : ∀ x, x ∈ l → 0 ≤ x ∧ x < ((r * c : Nat) : Int)) : ∀ (d k : Nat) (o : List Bool) (H : Heap), k + d = l.length → elB.Arr H M o → o.length = r * c → (∀ t, t < r * c → (o.getD t false = true ↔ ((t : Nat) : Int) ∈ l.take k)) → (l.take k).Nodup →
    (l.Nodup ∧ ∃ e H', den pg l23_1 [(2, A), (7, M), (8, .i .i64 (k : Int))] H = some ⟨.exit 0, e, H'⟩) ∨ (¬ l.Nodup ∧ ∃ H', den pg l23_1 [(2, A), (7, M), (8, .i .i64 (k : Int))] H = some ⟨.ret, [(6, .b false)], H'⟩)
  | 0, k, o, H, hd, hM, ho, hb, hnd => by
    have hlen := fun K => (hA.view K).lenK K
    obtain rfl : k = l.length := by omega
    rw [List.take_length] at hnd
    refine .inl ⟨hnd, _, H, by
      rw [l23_1, den_loop]
      simp (disch := omega) [b23_0, go_nil, go_last, go_past, go_pastR, go_blkN, go_blkR, go_blkE, go_skip, go_exit, go_ret, go_scope, go_seq, go_reg, go_regd, go_opdN, go_opd, go_opdG, grdd_b, grdd_u, stpd_some, find_some, go_block, go_cond, cnd_b, go_opsN, go_ops, go_opsG, grd_b, grd_u, stp_some, fin_some, up_some, cont_some, k_call, k_mv, k_pick, k_bin, k_eqB, k_eqA, k_not, k_neg, k_conv, k_alloc, k_boxA, k_boxI, k_boxB, k_boxN, k_boxBs, k_ldR, k_ldA, k_ldI, k_ldB, k_stA, k_stI, k_stB, ldC_some, stC_some, k_mkfn, k_slc, k_slcA, k_ixA, k_ixBs, k_ixSl, k_fadr, k_fld, k_ext, k_len, k_app, k_mn, k_mx, k_nilck, k_build, k_bsl1, k_bsl2, b_add, b_sub, b_mul, b_eql, b_neq, b_lss, b_leq, b_gtr, b_geq, Dn.setLast, Dn.getLast, evalO, mapO, Dn.get, putE, keepE_nil, keepE_cons, kp_some, kp_none, TV.one, TV.isAgg, Dn.part, k_boxR, negb, at0, at1, at2, at3, at4, dT, dF, wrapR_i64, Option.bind_some, Option.map_some, hlen]
      rfl⟩
  | d + 1, k, o, H, hd, hM, ho, hb, hnd => by
    have hn := h.n36
    have hlen := fun K => (hA.view K).lenK K
    have hx : l[k]? = some l[k] := List.getElem?_eq_getElem (by omega)
    obtain ⟨i1, i2⟩ := hin _ (List.getElem_mem (show k < l.length by omega))
    generalize l[k] = x at *
    obtain ⟨s, rfl⟩ : ∃ s : Nat, x = (s : Int) := ⟨x.toNat, by omega⟩
    have hsr : s < r * c := by omega
    have ht := take_snoc hx
    obtain ⟨p, p1, p2⟩ := ixI (pg := pg) (R := den pg) (hA.view H) hx
    have hos : o[s]? = some (o.getD s false) := by rw [List.getD_eq_getElem?_getD, List.getElem?_eq_getElem (by omega)]; rfl
    obtain ⟨id, q, q0, q1, q2, q3⟩ := arrB (pg := pg) (R := den pg) hM hos
    have hbs := hb s hsr
    cases hos' : o.getD s false with
    | true =>
      rw [hos'] at q2 hbs
      refine .inr ⟨fun hc => ?_, H, ?_⟩
      · have := nodup_take hc (k + 1)
        rw [ht, nodup_snoc] at this
        exact this.2 (hbs.1 rfl)
      · rw [l23_1, den_loop]
        simp (disch := omega) [b23_0, go_nil, go_last, go_past, go_pastR, go_blkN, go_blkR, go_blkE, go_skip, go_exit, go_ret, go_scope, go_seq, go_reg, go_regd, go_opdN, go_opd, go_opdG, grdd_b, grdd_u, stpd_some, find_some, go_block, go_cond, cnd_b, go_opsN, go_ops, go_opsG, grd_b, grd_u, stp_some, fin_some, up_some, cont_some, k_call, k_mv, k_pick, k_bin, k_eqB, k_eqA, k_not, k_neg, k_conv, k_alloc, k_boxA, k_boxI, k_boxB, k_boxN, k_boxBs, k_ldR, k_ldA, k_ldI, k_ldB, k_stA, k_stI, k_stB, ldC_some, stC_some, k_mkfn, k_slc, k_slcA, k_ixA, k_ixBs, k_ixSl, k_fadr, k_fld, k_ext, k_len, k_app, k_mn, k_mx, k_nilck, k_build, k_bsl1, k_bsl2, b_add, b_sub, b_mul, b_eql, b_neq, b_lss, b_leq, b_gtr, b_geq, Dn.setLast, Dn.getLast, evalO, mapO, Dn.get, putE, keepE_nil, keepE_cons, kp_some, kp_none, TV.one, TV.isAgg, Dn.part, k_boxR, negb, at0, at1, at2, at3, at4, dT, dF, wrapR_i64, Option.bind_some, Option.map_some, hlen, p1, p2, q1, q2]
    | false =>
      rw [hos'] at q2 hbs
      obtain ⟨H1, s1, s2, s3, s4⟩ := q3 true
      have hni : ((s : Nat) : Int) ∉ l.take k := fun hc => by have := hbs.2 hc; cases this
      refine (l23_all (pg := pg) h hA h64 hin d (k + 1) (o.set s true) H1 (by omega) s2 (by simpa using ho) (fun t htr => ?_) (by rw [ht, nodup_snoc]; exact ⟨hnd, hni⟩)).imp (fun ⟨a1, e, H', a2⟩ => ⟨a1, e, H', Eq.trans ?_ a2⟩) (fun ⟨a1, H', a2⟩ => ⟨a1, H', Eq.trans ?_ a2⟩)
      · rw [ht, List.mem_append, List.mem_singleton, ← hb t htr]
        simp only [List.getD_eq_getElem?_getD]
        by_cases hts : t = s
        · subst hts
          rw [List.getElem?_set_self (by omega)]
          simp
        · rw [List.getElem?_set_ne (by omega)]
          constructor
          · intro h1; exact .inl h1
          · rintro (h1 | h1)
            · exact h1
            · omega
      · rw [l23_1, den_loop]
        simp (disch := omega) [l23_1, b23_0, go_nil, go_last, go_past, go_pastR, go_blkN, go_blkR, go_blkE, go_skip, go_exit, go_ret, go_scope, go_seq, go_reg, go_regd, go_opdN, go_opd, go_opdG, grdd_b, grdd_u, stpd_some, find_some, go_block, go_cond, cnd_b, go_opsN, go_ops, go_opsG, grd_b, grd_u, stp_some, fin_some, up_some, cont_some, k_call, k_mv, k_pick, k_bin, k_eqB, k_eqA, k_not, k_neg, k_conv, k_alloc, k_boxA, k_boxI, k_boxB, k_boxN, k_boxBs, k_ldR, k_ldA, k_ldI, k_ldB, k_stA, k_stI, k_stB, ldC_some, stC_some, k_mkfn, k_slc, k_slcA, k_ixA, k_ixBs, k_ixSl, k_fadr, k_fld, k_ext, k_len, k_app, k_mn, k_mx, k_nilck, k_build, k_bsl1, k_bsl2, b_add, b_sub, b_mul, b_eql, b_neq, b_lss, b_leq, b_gtr, b_geq, Dn.setLast, Dn.getLast, evalO, mapO, Dn.get, putE, keepE_nil, keepE_cons, kp_some, kp_none, TV.one, TV.isAgg, Dn.part, k_boxR, negb, at0, at1, at2, at3, at4, dT, dF, wrapR_i64, Option.bind_some, Option.map_some, hlen, p1, p2, q1, q2, s1]
      · rw [l23_1, den_loop]
        simp (disch := omega) [l23_1, b23_0, go_nil, go_last, go_past, go_pastR, go_blkN, go_blkR, go_blkE, go_skip, go_exit, go_ret, go_scope, go_seq, go_reg, go_regd, go_opdN, go_opd, go_opdG, grdd_b, grdd_u, stpd_some, find_some, go_block, go_cond, cnd_b, go_opsN, go_ops, go_opsG, grd_b, grd_u, stp_some, fin_some, up_some, cont_some, k_call, k_mv, k_pick, k_bin, k_eqB, k_eqA, k_not, k_neg, k_conv, k_alloc, k_boxA, k_boxI, k_boxB, k_boxN, k_boxBs, k_ldR, k_ldA, k_ldI, k_ldB, k_stA, k_stI, k_stB, ldC_some, stC_some, k_mkfn, k_slc, k_slcA, k_ixA, k_ixBs, k_ixSl, k_fadr, k_fld, k_ext, k_len, k_app, k_mn, k_mx, k_nilck, k_build, k_bsl1, k_bsl2, b_add, b_sub, b_mul, b_eql, b_neq, b_lss, b_leq, b_gtr, b_geq, Dn.setLast, Dn.getLast, evalO, mapO, Dn.get, putE, keepE_nil, keepE_cons, kp_some, kp_none, TV.one, TV.isAgg, Dn.part, k_boxR, negb, at0, at1, at2, at3, at4, dT, dF, wrapR_i64, Option.bind_some, Option.map_some, hlen, p1, p2, q1, q2, s1]

theorem fn23 {pg : Pg} (hF : Free pg) {r c : Nat} (h : Brd r c) {A : TV} {l : List Int} (hA : SV A l) (h64 : l.length ≤ 1000000) : PFn pg 23 [.i .i64 (r : Int), .i .i64 (c : Int), A] (.b (tourB r c l)) := by
  have hn := h.n36
  obtain ⟨hcast, wn⟩ := rc_facts h
  have hlen := fun K => (hA.view K).lenK K
  obtain ⟨A', sA, hA'⟩ := sv_snapB hA
  have c34 := fun H => PFn.call (fn34 hF h hA' (by omega)) (args := [.i .i64 (r : Int), .i .i64 (c : Int), A]) (ks := []) (fs := []) (cs := []) (H := H) (by simp [snapArgs, sn_i, sA])
  have fin : ∀ {e : Env} {x : Ex} {H : Heap} {b : Bool}, go pg (den pg) [.c d23.body] .normal (zipE [.i .i64 (r : Int), .i .i64 (c : Int), A] 0) [] = some ⟨x, e, H⟩ → x = .ret → Dn.get e 6 = some (.b b) → PFn pg 23 [.i .i64 (r : Int), .i .i64 (c : Int), A] (.b b) := fun h1 h2 h3 =>
    .inr ⟨hF.S _ _ (by decide), _, _, body_of (d := d23) (by rw [hF.F]; rfl) rfl h1 (.inl h2) (by show mapO _ [RV.t 6] = _; simp only [mapO, resRun, h3]; rfl), sn_b _ _ _⟩
  unfold tourB
  by_cases hl : l.length = r * c
  · rw [dT hl]
    have hne : ((l.length : Int) != (r : Int) * c) = false := bneF (by rw [← hcast, hl])
    cases hw : isWay r c l with
    | false =>
      rw [hw] at c34
      refine fin (x := .ret) (e := [(6, .b false)]) (H := []) ?_ rfl rfl
      simp (disch := omega) [d23, c23, zipE, go_nil, go_last, go_past, go_pastR, go_blkN, go_blkR, go_blkE, go_skip, go_exit, go_ret, go_scope, go_seq, go_reg, go_regd, go_opdN, go_opd, go_opdG, grdd_b, grdd_u, stpd_some, find_some, go_block, go_cond, cnd_b, go_opsN, go_ops, go_opsG, grd_b, grd_u, stp_some, fin_some, up_some, cont_some, k_call, k_mv, k_pick, k_bin, k_eqB, k_eqA, k_not, k_neg, k_conv, k_alloc, k_boxA, k_boxI, k_boxB, k_boxN, k_boxBs, k_ldR, k_ldA, k_ldI, k_ldB, k_stA, k_stI, k_stB, ldC_some, stC_some, k_mkfn, k_slc, k_slcA, k_ixA, k_ixBs, k_ixSl, k_fadr, k_fld, k_ext, k_len, k_app, k_mn, k_mx, k_nilck, k_build, k_bsl1, k_bsl2, b_add, b_sub, b_mul, b_eql, b_neq, b_lss, b_leq, b_gtr, b_geq, Dn.setLast, Dn.getLast, evalO, mapO, Dn.get, putE, keepE_nil, keepE_cons, kp_some, kp_none, TV.one, TV.isAgg, Dn.part, k_boxR, negb, at0, at1, at2, at3, at4, dT, dF, wrapR_i64, Option.bind_some, Option.map_some, hlen, wn, hne, c34]
    | true =>
      rw [hw] at c34
      have hall : ∀ j, j < l.length → wayAt r c l j = true := by
        unfold isWay at hw
        simp only [Bool.and_eq_true, List.all_eq_true, List.mem_range] at hw
        exact hw.1
      have hmk := k_mksl (pg := pg) (R := den pg) [.b false] false 1 .i64 .i64 (r * c) [] (by omega) (by omega)
      have harr := El.arr_mksl elB [] false (r * c)
      obtain ⟨H0, hH0⟩ : ∃ H0 : Heap, H0 = [] ++ [.cells (repl (elB.enc false) (r * c)) false] := ⟨_, rfl⟩
      obtain ⟨M, hM⟩ : ∃ M : TV, M = .sl 0 0 1 false (r * c) (some (r * c)) := ⟨_, rfl⟩
      have hmk' : dkc pg (den pg) (.mksl [.b false] false 1) [.i .i64 ((r : Int) * c), .i .i64 ((r : Int) * c)] [] = some (M, H0) := by rw [hM, hH0, ← hcast]; exact hmk
      have harr' : elB.Arr H0 M (List.replicate (r * c) false) := by rw [hM, hH0]; exact harr
      rcases l23_all (pg := pg) h hA h64 (all_in hall) l.length 0 _ H0 (by omega) harr' (by simp) (fun t ht => by simp [List.getD_eq_getElem?_getD, ht]) (by simp) with ⟨k1, e, H', k2⟩ | ⟨k1, H', k2⟩
      · simp only [Int.natCast_zero] at k2
        rw [dT k1]
        refine fin (x := .ret) (e := [(6, .b true)]) (H := H') ?_ rfl rfl
        simp (disch := omega) [d23, c23, zipE, go_nil, go_last, go_past, go_pastR, go_blkN, go_blkR, go_blkE, go_skip, go_exit, go_ret, go_scope, go_seq, go_reg, go_regd, go_opdN, go_opd, go_opdG, grdd_b, grdd_u, stpd_some, find_some, go_block, go_cond, cnd_b, go_opsN, go_ops, go_opsG, grd_b, grd_u, stp_some, fin_some, up_some, cont_some, k_call, k_mv, k_pick, k_bin, k_eqB, k_eqA, k_not, k_neg, k_conv, k_alloc, k_boxA, k_boxI, k_boxB, k_boxN, k_boxBs, k_ldR, k_ldA, k_ldI, k_ldB, k_stA, k_stI, k_stB, ldC_some, stC_some, k_mkfn, k_slc, k_slcA, k_ixA, k_ixBs, k_ixSl, k_fadr, k_fld, k_ext, k_len, k_app, k_mn, k_mx, k_nilck, k_build, k_bsl1, k_bsl2, b_add, b_sub, b_mul, b_eql, b_neq, b_lss, b_leq, b_gtr, b_geq, Dn.setLast, Dn.getLast, evalO, mapO, Dn.get, putE, keepE_nil, keepE_cons, kp_some, kp_none, TV.one, TV.isAgg, Dn.part, k_boxR, negb, at0, at1, at2, at3, at4, dT, dF, wrapR_i64, Option.bind_some, Option.map_some, hlen, wn, hne, c34, hmk', go_denK (c := l23_1) rfl, k2]
      · simp only [Int.natCast_zero] at k2
        rw [dF k1]
        refine fin (x := .ret) (e := [(6, .b false)]) (H := H') ?_ rfl rfl
        simp (disch := omega) [d23, c23, zipE, go_nil, go_last, go_past, go_pastR, go_blkN, go_blkR, go_blkE, go_skip, go_exit, go_ret, go_scope, go_seq, go_reg, go_regd, go_opdN, go_opd, go_opdG, grdd_b, grdd_u, stpd_some, find_some, go_block, go_cond, cnd_b, go_opsN, go_ops, go_opsG, grd_b, grd_u, stp_some, fin_some, up_some, cont_some, k_call, k_mv, k_pick, k_bin, k_eqB, k_eqA, k_not, k_neg, k_conv, k_alloc, k_boxA, k_boxI, k_boxB, k_boxN, k_boxBs, k_ldR, k_ldA, k_ldI, k_ldB, k_stA, k_stI, k_stB, ldC_some, stC_some, k_mkfn, k_slc, k_slcA, k_ixA, k_ixBs, k_ixSl, k_fadr, k_fld, k_ext, k_len, k_app, k_mn, k_mx, k_nilck, k_build, k_bsl1, k_bsl2, b_add, b_sub, b_mul, b_eql, b_neq, b_lss, b_leq, b_gtr, b_geq, Dn.setLast, Dn.getLast, evalO, mapO, Dn.get, putE, keepE_nil, keepE_cons, kp_some, kp_none, TV.one, TV.isAgg, Dn.part, k_boxR, negb, at0, at1, at2, at3, at4, dT, dF, wrapR_i64, Option.bind_some, Option.map_some, hlen, wn, hne, c34, hmk', go_denK (c := l23_1) rfl, k2]
  · rw [dF hl]
    have hne : ((l.length : Int) != (r : Int) * c) = true := bneT (by rw [← hcast]; omega)
    refine fin (x := .ret) (e := [(6, .b false)]) (H := []) ?_ rfl rfl
    simp (disch := omega) [d23, c23, zipE, go_nil, go_last, go_past, go_pastR, go_blkN, go_blkR, go_blkE, go_skip, go_exit, go_ret, go_scope, go_seq, go_reg, go_regd, go_opdN, go_opd, go_opdG, grdd_b, grdd_u, stpd_some, find_some, go_block, go_cond, cnd_b, go_opsN, go_ops, go_opsG, grd_b, grd_u, stp_some, fin_some, up_some, cont_some, k_call, k_mv, k_pick, k_bin, k_eqB, k_eqA, k_not, k_neg, k_conv, k_alloc, k_boxA, k_boxI, k_boxB, k_boxN, k_boxBs, k_ldR, k_ldA, k_ldI, k_ldB, k_stA, k_stI, k_stB, ldC_some, stC_some, k_mkfn, k_slc, k_slcA, k_ixA, k_ixBs, k_ixSl, k_fadr, k_fld, k_ext, k_len, k_app, k_mn, k_mx, k_nilck, k_build, k_bsl1, k_bsl2, b_add, b_sub, b_mul, b_eql, b_neq, b_lss, b_leq, b_gtr, b_geq, Dn.setLast, Dn.getLast, evalO, mapO, Dn.get, putE, keepE_nil, keepE_cons, kp_some, kp_none, TV.one, TV.isAgg, Dn.part, k_boxR, negb, at0, at1, at2, at3, at4, dT, dF, wrapR_i64, Option.bind_some, Option.map_some, hlen, wn, hne]

theorem fn50 {pg : Pg} (hF : Free pg) {A : TV} {l : List Int} (hA : SV A l) (h64 : l.length ≤ 9223372036854775807) : PFn pg 50 [A] (elI.lt false (l.take 37)) := by
  have hlen := fun K => (hA.view K).lenK K
  have hmin : min l.length 37 ≤ l.length := Nat.min_le_left _ _
  obtain ⟨v, v1, v2, v3⟩ := (hA.view []).slc (lo := 0) (hi := min l.length 37) (by omega) hmin (bl := false) (bh := true) (vs := [.i .i64 ((min l.length 37 : Nat) : Int)]) (by simp [bounds3, bound])
  rw [List.drop_zero] at v2
  have htk : l.take (min l.length 37) = l.take 37 := by
    by_cases h : l.length ≤ 37
    · rw [Nat.min_eq_left h, List.take_length, List.take_of_length_le h]
    · rw [Nat.min_eq_right (by omega)]
  rw [htk] at v2
  obtain ⟨t', H', a1, a2, _⟩ := appI (H := []) (t := .nilsl) (x := v) (l := []) (k := l.take 37) (.inl ⟨rfl, rfl⟩) v2 (by rw [List.length_take]; simp; omega)
  rw [List.nil_append] at a2
  have v1' : slcRun false true false 1 false A [.i .i64 ((min l.length 37 : Nat) : Int)] = some v := v1
  refine .inr ⟨hF.S _ _ (by decide), t', H', body_of (x := .ret) (e := [(2, t')]) (d := d50) (by rw [hF.F]; rfl) rfl ?_ (.inl rfl) rfl, a2.fin elI_flat⟩
  have mn : dkc pg (den pg) .mnI [.i .i64 (l.length : Int), .i .i64 37] [] = some (.i .i64 ((min l.length 37 : Nat) : Int), []) := by
    rw [k_mn]
    congr 3
    split <;> omega
  generalize ((min l.length 37 : Nat) : Int) = MM at *
  simp (disch := omega) [d50, c50, zipE, go_nil, go_last, go_past, go_pastR, go_blkN, go_blkR, go_blkE, go_skip, go_exit, go_ret, go_scope, go_seq, go_reg, go_regd, go_opdN, go_opd, go_opdG, grdd_b, grdd_u, stpd_some, find_some, go_block, go_cond, cnd_b, go_opsN, go_ops, go_opsG, grd_b, grd_u, stp_some, fin_some, up_some, cont_some, k_call, k_mv, k_pick, k_bin, k_eqB, k_eqA, k_not, k_neg, k_conv, k_alloc, k_boxA, k_boxI, k_boxB, k_boxN, k_boxBs, k_ldR, k_ldA, k_ldI, k_ldB, k_stA, k_stI, k_stB, ldC_some, stC_some, k_mkfn, k_slc, k_slcA, k_ixA, k_ixBs, k_ixSl, k_fadr, k_fld, k_ext, k_len, k_app, k_mn, k_mx, k_nilck, k_build, k_bsl1, k_bsl2, b_add, b_sub, b_mul, b_eql, b_neq, b_lss, b_leq, b_gtr, b_geq, Dn.setLast, Dn.getLast, evalO, mapO, Dn.get, putE, keepE_nil, keepE_cons, kp_some, kp_none, TV.one, TV.isAgg, Dn.part, k_boxR, negb, at0, at1, at2, at3, at4, dT, dF, wrapR_i64, Option.bind_some, Option.map_some, hlen, mn, v1', a1]

end Go.Proofs.Tryd.Dn

