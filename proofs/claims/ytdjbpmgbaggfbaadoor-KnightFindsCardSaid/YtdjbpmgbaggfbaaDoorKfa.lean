/-
  Knight: tours: what they are, in the program and in the reference.
-/
import Derived.Test.YtdjbpmgbaggfbaaDoorKf9
set_option linter.unusedSimpArgs false
set_option linter.unusedVariables false

namespace Go.Proofs.Tryd.Dn
open Go.Dn

theorem sub_len {α : Type} [DecidableEq α] : ∀ (l1 l2 : List α), l1.Nodup → (∀ x, x ∈ l1 → x ∈ l2) → l1.length ≤ l2.length
  | [], _, _, _ => Nat.zero_le _
  | x :: l1, l2, hd, hs => by
    rw [List.nodup_cons] at hd
    have hx := hs x (by simp)
    have ih := sub_len l1 (l2.erase x) hd.2 fun y hy => by
      have hne : y ≠ x := by rintro rfl; exact hd.1 hy
      exact (List.mem_erase_of_ne hne).2 (hs y (by simp [hy]))
    have hl := List.length_erase_of_mem hx
    have := List.length_pos_of_mem hx
    rw [List.length_cons]
    omega

/-- whether a list is a tour -/
def tourB (r c : Nat) (l : List Int) : Bool := decide (l.length = r * c) && isWay r c l && decide l.Nodup

def endsB (c : Nat) (l : List Int) : Bool := near c (l.getD 0 0).toNat (l.getD (l.length - 1) 0).toNat
theorem take_snoc {α : Type} {l : List α} {k : Nat} {x : α} (h : l[k]? = some x) : l.take (k + 1) = l.take k ++ [x] := by
  have hk := (List.getElem?_eq_some_iff.1 h).1
  rw [List.take_succ_eq_append_getElem hk, (List.getElem?_eq_some_iff.1 h).2]

theorem nodup_snoc {α : Type} {l : List α} {x : α} : (l ++ [x]).Nodup ↔ l.Nodup ∧ x ∉ l := by
  rw [List.nodup_append]
  constructor
  · rintro ⟨h1, _, h3⟩
    exact ⟨h1, fun hx => h3 x hx x (by simp) rfl⟩
  · rintro ⟨h1, h2⟩
    exact ⟨h1, by simp, fun a ha b hb => by
      rw [List.mem_singleton] at hb
      subst hb
      rintro rfl
      exact h2 ha⟩

theorem nodup_take {α : Type} {l : List α} (h : l.Nodup) (k : Nat) : (l.take k).Nodup := h.sublist (List.take_sublist _ _)

theorem wayAt_in {r c : Nat} {l : List Int} {i : Nat} (h : wayAt r c l i = true) : 0 ≤ l.getD i 0 ∧ l.getD i 0 < ((r * c : Nat) : Int) := by
  unfold wayAt at h
  simp only [Bool.and_eq_true, decide_eq_true_eq] at h
  exact h.1

theorem all_in {r c : Nat} {l : List Int} (h : ∀ j, j < l.length → wayAt r c l j = true) : ∀ x, x ∈ l → 0 ≤ x ∧ x < ((r * c : Nat) : Int) := by
  intro x hx
  obtain ⟨i, hi⟩ := List.getElem?_of_mem hx
  have := wayAt_in (h i (List.getElem?_eq_some_iff.1 hi).1)
  rwa [List.getD_eq_getElem?_getD, hi] at this

/-! the board behind a pointer -/
theorem part_n (r c : Nat) : Dn.part 1 false 2 (bM r c) = some (.i .i64 ((r * c : Nat) : Int)) := part_one rfl rfl
theorem k_fadrN {pg : Pg} {R : Rec} (r c : Nat) (bo : Bool) (H : Heap) : dkc pg R (.fadr 2 1 false) [.bp bo (.agg (bM r c))] H = some (.bp bo (.i .i64 ((r * c : Nat) : Int)), H) := by
  have := part_n r c
  simp [dkc, dk, this]
theorem k_ixAM {pg : Pg} {R : Rec} {r c : Nat} (h : Brd r c) {s : Nat} (hs : s < r * c) (bo : Bool) (k : IntKind) (H : Heap) : dkc pg R (.ixA 36 1 false) [.bp bo (.agg (masks r c)), .i k (s : Int)] H = some (.bp bo (.i .u64 (mv r c s : Int)), H) := by
  have hn := h.n36
  have hm : mvTo r c (r * c) s = mv r c s := by unfold mvTo; rw [if_pos hs]
  rw [← hm]
  exact k_ixAB r c (by omega) bo k H

/-- a bit looked at -/
theorem bit_and {m c : Nat} (hm : m < 18446744073709551616) (hc : c < 64) : ∃ d : Nat, binI .shr (.i .u64 (m : Int)) (.i .u64 (c : Int)) = some (.i .u64 (d : Int)) ∧ binI .and (.i .u64 (d : Int)) (.i .u64 1) = some (.i .u64 (if m.testBit c = true then 1 else 0)) := by
  have h1 := Dn.shr_u (k := .u64) (m := m) (c := c) (by omega)
  have hd : m / 2 ^ c < 18446744073709551616 := Nat.lt_of_le_of_lt (Nat.div_le_self _ _) hm
  have h2 := and_uu (m := m / 2 ^ c) (k := 1) hd (by omega)
  rw [bit_and1] at h2
  refine ⟨m / 2 ^ c, h1, ?_⟩
  simp only [Int.cast_ofNat_Int] at h2
  rw [h2]
  split <;> rfl

theorem call81 {pg : Pg} (hF : Free pg) {r c : Nat} {bo : Bool} (h : Brd r c) (H : Heap) : callRun pg (den pg) (.pu []) [.fn 81 [] [], .bp bo (.agg (bM r c))] H = some (.i .u64 ((2 ^ (r * c) - 1 : Nat) : Int), H) := by
  have hn := h.n36
  have f : PFn pg 81 [.bp true (.agg (bM r c))] (.i .u64 ((2 ^ (r * c) - 1 : Nat) : Int)) := by
    have f2 := k_fadrN (pg := pg) (R := den pg) r c true []
    have n1 := k_nckB (pg := pg) (R := den pg) (.agg (bM r c)) true []
    have w1 := wrap_u (m := r * c) (by omega)
    have sh := Dn.shl_u (k := .u64) (c := r * c) (by omega)
    have hp : 1 ≤ 2 ^ (r * c) := Nat.one_le_two_pow
    have hlt := lv64 h
    have w2 : wrapR .u64 (((2 ^ (r * c) : Nat) : Int) - 1) = .i .u64 ((2 ^ (r * c) - 1 : Nat) : Int) := by
      rw [show ((2 ^ (r * c) : Nat) : Int) - 1 = ((2 ^ (r * c) - 1 : Nat) : Int) by omega]
      exact wrap_u (by omega)
    refine .of1 (x := .ret) (e := [(2, .i .u64 ((2 ^ (r * c) - 1 : Nat) : Int))]) (H' := []) (hF.S _ _ (by decide)) (d := d81) (by rw [hF.F]; rfl) rfl ?_ (.inl rfl) rfl (by simp [sn_i, sn_b, sn_nil, sn8_i, sn8_b, sn8_nil, sn7_i, sn7_b, sn_sl, sn8_sl, slB_some, sn_tup, sn_agg, sn8_agg, mapO, elems])
    generalize ((2 ^ (r * c) - 1 : Nat) : Int) = V at *
    generalize ((2 ^ (r * c) : Nat) : Int) = U at *
    generalize TV.agg (bM r c) = BM at *
    generalize ((r * c : Nat) : Int) = N at *
    simp [d81, c81, zipE, go_nil, go_last, go_past, go_pastR, go_blkN, go_blkR, go_blkE, go_skip, go_exit, go_ret, go_scope, go_seq, go_reg, go_regd, go_opdN, go_opd, go_opdG, grdd_b, grdd_u, stpd_some, find_some, go_block, go_cond, cnd_b, go_opsN, go_ops, go_opsG, grd_b, grd_u, stp_some, fin_some, up_some, cont_some, k_call, k_mv, k_pick, k_bin, k_eqB, k_eqA, k_not, k_neg, k_conv, k_alloc, k_boxA, k_boxI, k_boxB, k_boxN, k_boxBs, k_ldR, k_ldA, k_ldI, k_ldB, k_stA, k_stI, k_stB, ldC_some, stC_some, k_mkfn, k_slc, k_slcA, k_ixA, k_ixBs, k_ixSl, k_fadr, k_fld, k_ext, k_len, k_app, k_mn, k_mx, k_nilck, k_build, k_bsl1, k_bsl2, b_add, b_sub, b_mul, b_eql, b_neq, b_lss, b_leq, b_gtr, b_geq, Dn.setLast, Dn.getLast, evalO, mapO, Dn.get, putE, keepE, TV.one, TV.isAgg, Dn.part, f2, n1, w1, sh, w2]
  have := snap_bp bo H r c
  exact PFn.call f (args := [.bp bo (.agg (bM r c))]) (by simp [snapArgs, this])

/-- what the program has seen of a list -/
structure Seen (r c : Nat) (l : List Int) (k seen : Nat) : Prop where
  ok : ∀ j, j < k → wayAt r c l j = true
  nd : (l.take k).Nodup
  lt : seen < 2 ^ (r * c)
  bit : ∀ t, t < r * c → (seen.testBit t = true ↔ ((t : Nat) : Int) ∈ l.take k)

theorem Seen.step {r c : Nat} {l : List Int} {k seen s : Nat} (h : Seen r c l k seen) (hs : l[k]? = some (s : Int)) (hw : wayAt r c l k = true) (hb : seen.testBit s = false) : Seen r c l (k + 1) (seen ||| 2 ^ s) := by
  have hin := wayAt_in hw
  rw [List.getD_eq_getElem?_getD, hs] at hin
  have hsr : s < r * c := by have := hin.2; simp only [Option.getD_some] at this; omega
  have ht := take_snoc hs
  refine ⟨fun j hj => ?_, ?_, or_lt h.lt (Nat.pow_lt_pow_right (by decide) hsr), fun t htr => ?_⟩
  · by_cases hjk : j = k
    · subst hjk; exact hw
    · exact h.ok j (by omega)
  · rw [ht, nodup_snoc]
    refine ⟨h.nd, fun hm => ?_⟩
    rw [(h.bit s hsr).2 hm] at hb
    cases hb
  · rw [ht, Nat.testBit_or, Bool.or_eq_true, h.bit t htr, List.mem_append, List.mem_singleton, Nat.testBit_two_pow, decide_eq_true_eq]
    constructor
    · rintro (h1 | h1)
      · exact .inl h1
      · exact .inr (by omega)
    · rintro (h1 | h1)
      · exact .inl h1
      · exact .inr (by omega)

end Go.Proofs.Tryd.Dn

/-
  Knight: the law of tours, run.
-/

namespace Go.Proofs.Tryd.Dn
open Go.Dn

theorem tourB_len {r c : Nat} {l : List Int} (h : tourB r c l = true) : l.length = r * c := by
  unfold tourB at h
  simp only [Bool.and_eq_true, decide_eq_true_eq] at h
  exact h.1.1

theorem tourB_at {r c : Nat} {l : List Int} (h : tourB r c l = true) {i : Nat} (hi : i < l.length) : ∃ s : Nat, l[i]? = some (s : Int) ∧ s < r * c ∧ l.getD i 0 = (s : Int) := by
  unfold tourB isWay at h
  simp only [Bool.and_eq_true, decide_eq_true_eq, List.all_eq_true, List.mem_range] at h
  have hw := wayAt_in (h.1.2.1 i hi)
  refine ⟨(l.getD i 0).toNat, ?_, by omega, by omega⟩
  rw [getD_some hi]
  congr 1
  omega

theorem sv_snapB {A : TV} {l : List Int} (hA : SV A l) : ∃ A', (∀ H, snap .borrow H 9 A = some A') ∧ SV A' l := by
  rcases hA with ⟨rfl, rfl⟩ | ⟨b, rfl⟩
  · exact ⟨.nilsl, fun H => sn_nil _ _, .inl ⟨rfl, rfl⟩⟩
  · refine ⟨.bs true 1 (l.map elI.val), fun H => ?_, .inr ⟨true, rfl⟩⟩
    rw [snS_bsB, mapO_map (f := elI.val) (k := elI.val) (l := l) fun a _ => snS_i _ _ _ _ _, Option.map_some]

/-- a board without squares asked for -/
theorem body59n {pg : Pg} (hF : Free pg) {r c : Nat} (h : Brd r c) (H : Heap) : ∃ H', bodyRun pg (den pg) 59 [.i .i64 (r : Int), .i .i64 (c : Int), .nilsl] H = some (.tup [.ref H.length 0, .i .i64 0], H') ∧
    H'[H.length]? = some (.cells (bM r c) true) ∧ H.length < H'.length ∧ ∀ m, m < H.length → H'[m]? = H[m]? := by
  obtain ⟨H', h1, h2⟩ := body59 (pg := pg) hF h (t := .nilsl) (ps := []) (H := H) (.inl ⟨rfl, rfl⟩) (by simp)
  exact ⟨H', by simpa using h1, h2⟩

/-! the reference -/
theorem l23_all {pg : Pg} {r c : Nat} (h : Brd r c) {A M : TV} {l : List Int} (hA : SV A l) (h64 : l.length ≤ 1000000) (hin : ∀ x, x ∈ l → 0 ≤ x ∧ x < ((r * c : Nat) : Int)) : ∀ (d k : Nat) (o : List Bool) (H : Heap), k + d = l.length → elB.Arr H M o → o.length = r * c → (∀ t, t < r * c → (o.getD t false = true ↔ ((t : Nat) : Int) ∈ l.take k)) → (l.take k).Nodup →
    (l.Nodup ∧ ∃ e H', den pg l23_1 [(2, A), (7, M), (8, .i .i64 (k : Int))] H = some ⟨.exit 0, e, H'⟩) ∨ (¬ l.Nodup ∧ ∃ H', den pg l23_1 [(2, A), (7, M), (8, .i .i64 (k : Int))] H = some ⟨.ret, [(6, .b false)], H'⟩)
  | 0, k, o, H, hd, hM, ho, hb, hnd => by
    have hlen := fun K => (hA.view K).lenK K
    obtain rfl : k = l.length := by omega
    rw [List.take_length] at hnd
    refine .inl ⟨hnd, _, H, by
      rw [l23_1, den_loop]
      simp (disch := omega) [b23_0, go_nil, go_last, go_past, go_pastR, go_blkN, go_blkR, go_blkE, go_skip, go_exit, go_ret, go_scope, go_seq, go_reg, go_regd, go_opdN, go_opd, go_opdG, grdd_b, grdd_u, stpd_some, find_some, go_block, go_cond, cnd_b, go_opsN, go_ops, go_opsG, grd_b, grd_u, stp_some, fin_some, up_some, cont_some, k_call, k_mv, k_pick, k_bin, k_eqB, k_eqA, k_not, k_neg, k_conv, k_alloc, k_boxA, k_boxI, k_boxB, k_boxN, k_boxBs, k_ldR, k_ldA, k_ldI, k_ldB, k_stA, k_stI, k_stB, ldC_some, stC_some, k_mkfn, k_slc, k_slcA, k_ixA, k_ixBs, k_ixSl, k_fadr, k_fld, k_ext, k_len, k_app, k_mn, k_mx, k_nilck, k_build, k_bsl1, k_bsl2, b_add, b_sub, b_mul, b_eql, b_neq, b_lss, b_leq, b_gtr, b_geq, Dn.setLast, Dn.getLast, evalO, mapO, Dn.get, putE, keepE_nil, keepE_cons, kp_some, kp_none, TV.one, TV.isAgg, Dn.part, k_boxR, negb, at0, at1, at2, at3, at4, dT, dF, wrapR_i64, Option.bind_some, Option.map_some, hlen]
      rfl⟩
  | d + 1, k, o, H, hd, hM, ho, hb, hnd => by
    have hn := h.n36
    have hlen := fun K => (hA.view K).lenK K
    have hx : l[k]? = some l[k] := List.getElem?_eq_getElem (by omega)
    obtain ⟨i1, i2⟩ := hin _ (List.getElem_mem (show k < l.length by omega))
    generalize l[k] = x at *
    obtain ⟨s, rfl⟩ : ∃ s : Nat, x = (s : Int) := ⟨x.toNat, by omega⟩
    have hsr : s < r * c := by omega
    have ht := take_snoc hx
    obtain ⟨p, p1, p2⟩ := ixI (pg := pg) (R := den pg) (hA.view H) hx
    have hos : o[s]? = some (o.getD s false) := by rw [List.getD_eq_getElem?_getD, List.getElem?_eq_getElem (by omega)]; rfl
    obtain ⟨id, q, q0, q1, q2, q3⟩ := arrB (pg := pg) (R := den pg) hM hos
    have hbs := hb s hsr
    cases hos' : o.getD s false with
    | true =>
      rw [hos'] at q2 hbs
      refine .inr ⟨fun hc => ?_, H, ?_⟩
      · have := nodup_take hc (k + 1)
        rw [ht, nodup_snoc] at this
        exact this.2 (hbs.1 rfl)
      · rw [l23_1, den_loop]
        simp (disch := omega) [b23_0, go_nil, go_last, go_past, go_pastR, go_blkN, go_blkR, go_blkE, go_skip, go_exit, go_ret, go_scope, go_seq, go_reg, go_regd, go_opdN, go_opd, go_opdG, grdd_b, grdd_u, stpd_some, find_some, go_block, go_cond, cnd_b, go_opsN, go_ops, go_opsG, grd_b, grd_u, stp_some, fin_some, up_some, cont_some, k_call, k_mv, k_pick, k_bin, k_eqB, k_eqA, k_not, k_neg, k_conv, k_alloc, k_boxA, k_boxI, k_boxB, k_boxN, k_boxBs, k_ldR, k_ldA, k_ldI, k_ldB, k_stA, k_stI, k_stB, ldC_some, stC_some, k_mkfn, k_slc, k_slcA, k_ixA, k_ixBs, k_ixSl, k_fadr, k_fld, k_ext, k_len, k_app, k_mn, k_mx, k_nilck, k_build, k_bsl1, k_bsl2, b_add, b_sub, b_mul, b_eql, b_neq, b_lss, b_leq, b_gtr, b_geq, Dn.setLast, Dn.getLast, evalO, mapO, Dn.get, putE, keepE_nil, keepE_cons, kp_some, kp_none, TV.one, TV.isAgg, Dn.part, k_boxR, negb, at0, at1, at2, at3, at4, dT, dF, wrapR_i64, Option.bind_some, Option.map_some, hlen, p1, p2, q1, q2]
    | false =>
      rw [hos'] at q2 hbs
      obtain ⟨H1, s1, s2, s3, s4⟩ := q3 true
      have hni : ((s : Nat) : Int) ∉ l.take k := fun hc => by have := hbs.2 hc; cases this
      refine (l23_all (pg := pg) h hA h64 hin d (k + 1) (o.set s true) H1 (by omega) s2 (by simpa using ho) (fun t htr => ?_) (by rw [ht, nodup_snoc]; exact ⟨hnd, hni⟩)).imp (fun ⟨a1, e, H', a2⟩ => ⟨a1, e, H', Eq.trans ?_ a2⟩) (fun ⟨a1, H', a2⟩ => ⟨a1, H', Eq.trans ?_ a2⟩)
      · rw [ht, List.mem_append, List.mem_singleton, ← hb t htr]
        simp only [List.getD_eq_getElem?_getD]
        by_cases hts : t = s
        · subst hts
          rw [List.getElem?_set_self (by omega)]
          simp
        · rw [List.getElem?_set_ne (by omega)]
          constructor
          · intro h1; exact .inl h1
          · rintro (h1 | h1)
            · exact h1
            · omega
      · rw [l23_1, den_loop]
        simp (disch := omega) [l23_1, b23_0, go_nil, go_last, go_past, go_pastR, go_blkN, go_blkR, go_blkE, go_skip, go_exit, go_ret, go_scope, go_seq, go_reg, go_regd, go_opdN, go_opd, go_opdG, grdd_b, grdd_u, stpd_some, find_some, go_block, go_cond, cnd_b, go_opsN, go_ops, go_opsG, grd_b, grd_u, stp_some, fin_some, up_some, cont_some, k_call, k_mv, k_pick, k_bin, k_eqB, k_eqA, k_not, k_neg, k_conv, k_alloc, k_boxA, k_boxI, k_boxB, k_boxN, k_boxBs, k_ldR, k_ldA, k_ldI, k_ldB, k_stA, k_stI, k_stB, ldC_some, stC_some, k_mkfn, k_slc, k_slcA, k_ixA, k_ixBs, k_ixSl, k_fadr, k_fld, k_ext, k_len, k_app, k_mn, k_mx, k_nilck, k_build, k_bsl1, k_bsl2, b_add, b_sub, b_mul, b_eql, b_neq, b_lss, b_leq, b_gtr, b_geq, Dn.setLast, Dn.getLast, evalO, mapO, Dn.get, putE, keepE_nil, keepE_cons, kp_some, kp_none, TV.one, TV.isAgg, Dn.part, k_boxR, negb, at0, at1, at2, at3, at4, dT, dF, wrapR_i64, Option.bind_some, Option.map_some, hlen, p1, p2, q1, q2, s1]
      · rw [l23_1, den_loop]
        simp (disch := omega) [l23_1, b23_0, go_nil, go_last, go_past, go_pastR, go_blkN, go_blkR, go_blkE, go_skip, go_exit, go_ret, go_scope, go_seq, go_reg, go_regd, go_opdN, go_opd, go_opdG, grdd_b, grdd_u, stpd_some, find_some, go_block, go_cond, cnd_b, go_opsN, go_ops, go_opsG, grd_b, grd_u, stp_some, fin_some, up_some, cont_some, k_call, k_mv, k_pick, k_bin, k_eqB, k_eqA, k_not, k_neg, k_conv, k_alloc, k_boxA, k_boxI, k_boxB, k_boxN, k_boxBs, k_ldR, k_ldA, k_ldI, k_ldB, k_stA, k_stI, k_stB, ldC_some, stC_some, k_mkfn, k_slc, k_slcA, k_ixA, k_ixBs, k_ixSl, k_fadr, k_fld, k_ext, k_len, k_app, k_mn, k_mx, k_nilck, k_build, k_bsl1, k_bsl2, b_add, b_sub, b_mul, b_eql, b_neq, b_lss, b_leq, b_gtr, b_geq, Dn.setLast, Dn.getLast, evalO, mapO, Dn.get, putE, keepE_nil, keepE_cons, kp_some, kp_none, TV.one, TV.isAgg, Dn.part, k_boxR, negb, at0, at1, at2, at3, at4, dT, dF, wrapR_i64, Option.bind_some, Option.map_some, hlen, p1, p2, q1, q2, s1]

theorem fn23 {pg : Pg} (hF : Free pg) {r c : Nat} (h : Brd r c) {A : TV} {l : List Int} (hA : SV A l) (h64 : l.length ≤ 1000000) : PFn pg 23 [.i .i64 (r : Int), .i .i64 (c : Int), A] (.b (tourB r c l)) := by
  have hn := h.n36
  obtain ⟨hcast, wn⟩ := rc_facts h
  have hlen := fun K => (hA.view K).lenK K
  obtain ⟨A', sA, hA'⟩ := sv_snapB hA
  have c34 := fun H => PFn.call (fn34 hF h hA' (by omega)) (args := [.i .i64 (r : Int), .i .i64 (c : Int), A]) (ks := []) (fs := []) (cs := []) (H := H) (by simp [snapArgs, sn_i, sA])
  have fin : ∀ {e : Env} {x : Ex} {H : Heap} {b : Bool}, go pg (den pg) [.c d23.body] .normal (zipE [.i .i64 (r : Int), .i .i64 (c : Int), A] 0) [] = some ⟨x, e, H⟩ → x = .ret → Dn.get e 6 = some (.b b) → PFn pg 23 [.i .i64 (r : Int), .i .i64 (c : Int), A] (.b b) := fun h1 h2 h3 =>
    .inr ⟨hF.S _ _ (by decide), _, _, body_of (d := d23) (by rw [hF.F]; rfl) rfl h1 (.inl h2) (by show mapO _ [RV.t 6] = _; simp only [mapO, resRun, h3]; rfl), sn_b _ _ _⟩
  unfold tourB
  by_cases hl : l.length = r * c
  · rw [dT hl]
    have hne : ((l.length : Int) != (r : Int) * c) = false := bneF (by rw [← hcast, hl])
    cases hw : isWay r c l with
    | false =>
      rw [hw] at c34
      refine fin (x := .ret) (e := [(6, .b false)]) (H := []) ?_ rfl rfl
      simp (disch := omega) [d23, c23, zipE, go_nil, go_last, go_past, go_pastR, go_blkN, go_blkR, go_blkE, go_skip, go_exit, go_ret, go_scope, go_seq, go_reg, go_regd, go_opdN, go_opd, go_opdG, grdd_b, grdd_u, stpd_some, find_some, go_block, go_cond, cnd_b, go_opsN, go_ops, go_opsG, grd_b, grd_u, stp_some, fin_some, up_some, cont_some, k_call, k_mv, k_pick, k_bin, k_eqB, k_eqA, k_not, k_neg, k_conv, k_alloc, k_boxA, k_boxI, k_boxB, k_boxN, k_boxBs, k_ldR, k_ldA, k_ldI, k_ldB, k_stA, k_stI, k_stB, ldC_some, stC_some, k_mkfn, k_slc, k_slcA, k_ixA, k_ixBs, k_ixSl, k_fadr, k_fld, k_ext, k_len, k_app, k_mn, k_mx, k_nilck, k_build, k_bsl1, k_bsl2, b_add, b_sub, b_mul, b_eql, b_neq, b_lss, b_leq, b_gtr, b_geq, Dn.setLast, Dn.getLast, evalO, mapO, Dn.get, putE, keepE_nil, keepE_cons, kp_some, kp_none, TV.one, TV.isAgg, Dn.part, k_boxR, negb, at0, at1, at2, at3, at4, dT, dF, wrapR_i64, Option.bind_some, Option.map_some, hlen, wn, hne, c34]
    | true =>
      rw [hw] at c34
      have hall : ∀ j, j < l.length → wayAt r c l j = true := by
        unfold isWay at hw
        simp only [Bool.and_eq_true, List.all_eq_true, List.mem_range] at hw
        exact hw.1
      have hmk := k_mksl (pg := pg) (R := den pg) [.b false] false 1 .i64 .i64 (r * c) [] (by omega) (by omega)
      have harr := El.arr_mksl elB [] false (r * c)
      obtain ⟨H0, hH0⟩ : ∃ H0 : Heap, H0 = [] ++ [.cells (repl (elB.enc false) (r * c)) false] := ⟨_, rfl⟩
      obtain ⟨M, hM⟩ : ∃ M : TV, M = .sl 0 0 1 false (r * c) (some (r * c)) := ⟨_, rfl⟩
      have hmk' : dkc pg (den pg) (.mksl [.b false] false 1) [.i .i64 ((r : Int) * c), .i .i64 ((r : Int) * c)] [] = some (M, H0) := by rw [hM, hH0, ← hcast]; exact hmk
      have harr' : elB.Arr H0 M (List.replicate (r * c) false) := by rw [hM, hH0]; exact harr
      rcases l23_all (pg := pg) h hA h64 (all_in hall) l.length 0 _ H0 (by omega) harr' (by simp) (fun t ht => by simp [List.getD_eq_getElem?_getD, ht]) (by simp) with ⟨k1, e, H', k2⟩ | ⟨k1, H', k2⟩
      · simp only [Int.natCast_zero] at k2
        rw [dT k1]
        refine fin (x := .ret) (e := [(6, .b true)]) (H := H') ?_ rfl rfl
        simp (disch := omega) [d23, c23, zipE, go_nil, go_last, go_past, go_pastR, go_blkN, go_blkR, go_blkE, go_skip, go_exit, go_ret, go_scope, go_seq, go_reg, go_regd, go_opdN, go_opd, go_opdG, grdd_b, grdd_u, stpd_some, find_some, go_block, go_cond, cnd_b, go_opsN, go_ops, go_opsG, grd_b, grd_u, stp_some, fin_some, up_some, cont_some, k_call, k_mv, k_pick, k_bin, k_eqB, k_eqA, k_not, k_neg, k_conv, k_alloc, k_boxA, k_boxI, k_boxB, k_boxN, k_boxBs, k_ldR, k_ldA, k_ldI, k_ldB, k_stA, k_stI, k_stB, ldC_some, stC_some, k_mkfn, k_slc, k_slcA, k_ixA, k_ixBs, k_ixSl, k_fadr, k_fld, k_ext, k_len, k_app, k_mn, k_mx, k_nilck, k_build, k_bsl1, k_bsl2, b_add, b_sub, b_mul, b_eql, b_neq, b_lss, b_leq, b_gtr, b_geq, Dn.setLast, Dn.getLast, evalO, mapO, Dn.get, putE, keepE_nil, keepE_cons, kp_some, kp_none, TV.one, TV.isAgg, Dn.part, k_boxR, negb, at0, at1, at2, at3, at4, dT, dF, wrapR_i64, Option.bind_some, Option.map_some, hlen, wn, hne, c34, hmk', go_denK (c := l23_1) rfl, k2]
      · simp only [Int.natCast_zero] at k2
        rw [dF k1]
        refine fin (x := .ret) (e := [(6, .b false)]) (H := H') ?_ rfl rfl
        simp (disch := omega) [d23, c23, zipE, go_nil, go_last, go_past, go_pastR, go_blkN, go_blkR, go_blkE, go_skip, go_exit, go_ret, go_scope, go_seq, go_reg, go_regd, go_opdN, go_opd, go_opdG, grdd_b, grdd_u, stpd_some, find_some, go_block, go_cond, cnd_b, go_opsN, go_ops, go_opsG, grd_b, grd_u, stp_some, fin_some, up_some, cont_some, k_call, k_mv, k_pick, k_bin, k_eqB, k_eqA, k_not, k_neg, k_conv, k_alloc, k_boxA, k_boxI, k_boxB, k_boxN, k_boxBs, k_ldR, k_ldA, k_ldI, k_ldB, k_stA, k_stI, k_stB, ldC_some, stC_some, k_mkfn, k_slc, k_slcA, k_ixA, k_ixBs, k_ixSl, k_fadr, k_fld, k_ext, k_len, k_app, k_mn, k_mx, k_nilck, k_build, k_bsl1, k_bsl2, b_add, b_sub, b_mul, b_eql, b_neq, b_lss, b_leq, b_gtr, b_geq, Dn.setLast, Dn.getLast, evalO, mapO, Dn.get, putE, keepE_nil, keepE_cons, kp_some, kp_none, TV.one, TV.isAgg, Dn.part, k_boxR, negb, at0, at1, at2, at3, at4, dT, dF, wrapR_i64, Option.bind_some, Option.map_some, hlen, wn, hne, c34, hmk', go_denK (c := l23_1) rfl, k2]
  · rw [dF hl]
    have hne : ((l.length : Int) != (r : Int) * c) = true := bneT (by rw [← hcast]; omega)
    refine fin (x := .ret) (e := [(6, .b false)]) (H := []) ?_ rfl rfl
    simp (disch := omega) [d23, c23, zipE, go_nil, go_last, go_past, go_pastR, go_blkN, go_blkR, go_blkE, go_skip, go_exit, go_ret, go_scope, go_seq, go_reg, go_regd, go_opdN, go_opd, go_opdG, grdd_b, grdd_u, stpd_some, find_some, go_block, go_cond, cnd_b, go_opsN, go_ops, go_opsG, grd_b, grd_u, stp_some, fin_some, up_some, cont_some, k_call, k_mv, k_pick, k_bin, k_eqB, k_eqA, k_not, k_neg, k_conv, k_alloc, k_boxA, k_boxI, k_boxB, k_boxN, k_boxBs, k_ldR, k_ldA, k_ldI, k_ldB, k_stA, k_stI, k_stB, ldC_some, stC_some, k_mkfn, k_slc, k_slcA, k_ixA, k_ixBs, k_ixSl, k_fadr, k_fld, k_ext, k_len, k_app, k_mn, k_mx, k_nilck, k_build, k_bsl1, k_bsl2, b_add, b_sub, b_mul, b_eql, b_neq, b_lss, b_leq, b_gtr, b_geq, Dn.setLast, Dn.getLast, evalO, mapO, Dn.get, putE, keepE_nil, keepE_cons, kp_some, kp_none, TV.one, TV.isAgg, Dn.part, k_boxR, negb, at0, at1, at2, at3, at4, dT, dF, wrapR_i64, Option.bind_some, Option.map_some, hlen, wn, hne]

theorem fn24 {pg : Pg} (hF : Free pg) {r c : Nat} (h : Brd r c) {A : TV} {l : List Int} (hA : SV A l) (ht : tourB r c l = true) : PFn pg 24 [.i .i64 (c : Int), A] (.b (endsB c l)) := by
  have hn := h.n36
  have hpos : 1 ≤ r * c := Nat.mul_pos h.r1 h.c1
  have hlen := fun K => (hA.view K).lenK K
  have hl := tourB_len ht
  obtain ⟨s, s1, s2, s3⟩ := tourB_at ht (i := 0) (by omega)
  obtain ⟨t, t1, t2, t3⟩ := tourB_at ht (i := l.length - 1) (by omega)
  obtain ⟨p, p1, p2⟩ := ixI (pg := pg) (R := den pg) (hA.view []) s1
  obtain ⟨q, q1, q2⟩ := ixI (pg := pg) (R := den pg) (hA.view []) t1
  have he : endsB c l = near c s t := by unfold endsB; rw [s3, t3]; rfl
  have wl : wrapR .i64 ((l.length : Int) - 1) = .i .i64 ((l.length - 1 : Nat) : Int) := by rw [show (l.length : Int) - 1 = ((l.length - 1 : Nat) : Int) by omega]; exact wrapR_i64 (by omega)
  have c62 := call62 (pg := pg) hF h.c1 h.c8 (a := s) (b := t) (by omega) (by omega) []
  simp only [Int.natCast_zero] at p1
  refine .inr ⟨hF.S _ _ (by decide), .b (endsB c l), [], body_of (x := .ret) (e := [(4, .b (endsB c l))]) (d := d24) (by rw [hF.F]; rfl) rfl ?_ (.inl rfl) rfl, sn_b _ _ _⟩
  rw [he]
  generalize ((l.length - 1 : Nat) : Int) = LL at *
  simp (disch := omega) [d24, c24, zipE, go_nil, go_last, go_past, go_pastR, go_blkN, go_blkR, go_blkE, go_skip, go_exit, go_ret, go_scope, go_seq, go_reg, go_regd, go_opdN, go_opd, go_opdG, grdd_b, grdd_u, stpd_some, find_some, go_block, go_cond, cnd_b, go_opsN, go_ops, go_opsG, grd_b, grd_u, stp_some, fin_some, up_some, cont_some, k_call, k_mv, k_pick, k_bin, k_eqB, k_eqA, k_not, k_neg, k_conv, k_alloc, k_boxA, k_boxI, k_boxB, k_boxN, k_boxBs, k_ldR, k_ldA, k_ldI, k_ldB, k_stA, k_stI, k_stB, ldC_some, stC_some, k_mkfn, k_slc, k_slcA, k_ixA, k_ixBs, k_ixSl, k_fadr, k_fld, k_ext, k_len, k_app, k_mn, k_mx, k_nilck, k_build, k_bsl1, k_bsl2, b_add, b_sub, b_mul, b_eql, b_neq, b_lss, b_leq, b_gtr, b_geq, Dn.setLast, Dn.getLast, evalO, mapO, Dn.get, putE, keepE_nil, keepE_cons, kp_some, kp_none, TV.one, TV.isAgg, Dn.part, k_boxR, negb, at0, at1, at2, at3, at4, dT, dF, wrapR_i64, Option.bind_some, Option.map_some, p1, p2, hlen, wl, q1, q2, c62]

end Go.Proofs.Tryd.Dn

