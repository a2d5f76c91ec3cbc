/-
  Knight: the tour from a square.
-/
import Derived.Test.YtdjbpmgbaggfbaaDoorKfr
import Derived.Test.YtdjbpmgbaggfbaaDoorKfa
set_option linter.unusedSimpArgs false
set_option linter.unusedVariables false

namespace Go.Proofs.Tryd.Dn
open Go.Dn

theorem Wy.fin {H : Heap} {t : TV} {l : List Int} (h : Wy H t l) : snap .fin H 9 t = some (elI.lt false l) := by
  rcases h with h | ⟨id, v, rfl, rfl, h⟩
  · exact h.fin elI_flat
  · rw [sn_sl _ (by decide), h, slB_some]
    simp [sn_i, sn_b, sn_nil, sn8_i, sn8_b, sn8_nil, sn7_i, sn7_b, sn_sl, sn8_sl, slB_some, sn_tup, sn_agg, sn8_agg, mapO, elems]
    rfl

def allBut (n s : Nat) : Nat := andN (2 ^ n - 1) (2 ^ s)

theorem allBut_bit {n s t : Nat} (hn : n ≤ 36) (hs : s < n) : (allBut n s).testBit t = (decide (t < n) && !decide (t = s)) := by
  unfold allBut
  have : 2 ^ n ≤ 2 ^ 36 := Nat.pow_le_pow_right (by decide) hn
  rw [andN_two (by omega) (by omega), Nat.testBit_two_pow_sub_one]

theorem near_big {r c s t : Nat} (h : Brd r c) (hs : s < r * c) (ht : t < r * c) (hst : near c s t = true) : 3 ≤ r * c := by
  have := h.ok (P := fun r c => decide (3 ≤ r * c) || (List.range (r * c)).all fun s => (List.range (r * c)).all fun t => !near c s t) (by kernel_rfl)
  rw [Bool.or_eq_true] at this
  rcases this with g | g
  · exact of_decide_eq_true g
  · have g1 := List.all_eq_true.1 (List.all_eq_true.1 g s (List.mem_range.2 hs)) t (List.mem_range.2 ht)
    rw [hst] at g1
    cases g1

theorem allBut_edge {r c s : Nat} (h : Brd r c) (hs : s < r * c) : ∀ t, t < r * c → near c s t = true → allBut (r * c) s ≠ 2 ^ t := by
  intro t ht hst he
  have hn := h.n36
  have h3 := near_big h hs ht hst
  have hb : ∀ x, (decide (x < r * c) && !decide (x = s)) = decide (t = x) := fun x => by rw [← allBut_bit hn hs, he, Nat.testBit_two_pow]
  have : ∃ x, x < 3 ∧ x ≠ s ∧ x ≠ t := by
    by_cases h0 : s ≠ 0 ∧ t ≠ 0
    · exact ⟨0, by omega, by omega, by omega⟩
    · by_cases h1 : s ≠ 1 ∧ t ≠ 1
      · exact ⟨1, by omega, by omega, by omega⟩
      · exact ⟨2, by omega, by omega, by omega⟩
  obtain ⟨x, x1, x2, x3⟩ := this
  have := hb x
  rw [dT (show x < r * c by omega), dF x2, dF (fun e => x3 e.symm)] at this
  cases this

theorem body61 {pg : Pg} (hF : Free pg) {r c first : Nat} {closed : Bool} (h : Brd r c) (hfst : first < r * c) :
    ((∃ H', bodyRun pg (den pg) 61 [.bp true (.agg (bM r c)), .i .i64 (first : Int), .b closed] [] = some (.nilsl, H')) ∧ ∀ q, ¬ Compl c first closed first (allBut (r * c) first) q) ∨
    (∃ q O' H', bodyRun pg (den pg) 61 [.bp true (.agg (bM r c)), .i .i64 (first : Int), .b closed] [] = some (O', H') ∧ Wy H' O' (nI (first :: q)) ∧ Compl c first closed first (allBut (r * c) first) q) := by
  have hn := h.n36
  have h64 := lv64 h
  obtain ⟨BB, hBB⟩ : ∃ BB, BB = TV.bp true (.agg (bM r c)) := ⟨_, rfl⟩
  have hpw : 2 ^ (r * c) - 1 < 2 ^ (r * c) := by have := Nat.two_pow_pos (r * c); omega
  obtain ⟨left, hleft⟩ : ∃ left, left = allBut (r * c) first := ⟨_, rfl⟩
  have hl : left < 2 ^ (r * c) := by rw [hleft]; exact Nat.lt_of_le_of_lt (andN_le _ _ (by omega)) hpw
  have hlf : left.testBit first = false := by rw [hleft, allBut_bit hn hfst]; simp
  have hml : (mem64 left).length ≤ 64 := by rw [mem64_len]; exact pop_le 64 left
  have sp := spec89 (pg := pg) hF (closed := closed) h hfst 64 first left hfst hl hlf (fun _ => hlf) (fun _ _ s hs hns => by rw [hleft]; exact allBut_edge h hfst s hs hns) hml
  obtain ⟨A0, hA0⟩ : ∃ A0 : Heap, A0 = [.cells [BB] false] := ⟨_, rfl⟩
  obtain ⟨A1, hA1⟩ : ∃ A1 : Heap, A1 = [.cells [BB] false, .cells [.i .i64 (first : Int)] false] := ⟨_, rfl⟩
  obtain ⟨A2, hA2⟩ : ∃ A2 : Heap, A2 = [.cells [BB] false, .cells [.i .i64 (first : Int)] false, .cells [.b closed] false] := ⟨_, rfl⟩
  obtain ⟨A3, hA3⟩ : ∃ A3 : Heap, A3 = [.cells [BB] false, .cells [.i .i64 (first : Int)] false, .cells [.b closed] false, .map [] 0] := ⟨_, rfl⟩
  obtain ⟨A4, hA4⟩ : ∃ A4 : Heap, A4 = [.cells [BB] false, .cells [.i .i64 (first : Int)] false, .cells [.b closed] false, .map [] 0, .cells [.nilmap] false] := ⟨_, rfl⟩
  obtain ⟨B4, hB4⟩ : ∃ B4 : Heap, B4 = [.cells [BB] false, .cells [.i .i64 (first : Int)] false, .cells [.b closed] false, .map [] 0, .cells [.mp 3] false] := ⟨_, rfl⟩
  obtain ⟨A5, hA5⟩ : ∃ A5 : Heap, A5 = [.cells [BB] false, .cells [.i .i64 (first : Int)] false, .cells [.b closed] false, .map [] 0, .cells [.mp 3] false, .cells [.i .i64 (first : Int)] false] := ⟨_, rfl⟩
  obtain ⟨A6, hA6⟩ : ∃ A6 : Heap, A6 = [.cells [BB] false, .cells [.i .i64 (first : Int)] false, .cells [.b closed] false, .map [] 0, .cells [.mp 3] false, .cells [.i .i64 (first : Int)] false, .cells [.nilsl] false] := ⟨_, rfl⟩
  obtain ⟨B6, hB6⟩ : ∃ B6 : Heap, B6 = [.cells [BB] false, .cells [.i .i64 (first : Int)] false, .cells [.b closed] false, .map [] 0, .cells [.mp 3] false, .cells [.i .i64 (first : Int)] false, .cells [.sl 5 0 1 false 1 (some 1)] false] := ⟨_, rfl⟩
  obtain ⟨A7, hA7⟩ : ∃ A7 : Heap, A7 = [.cells [BB] false, .cells [.i .i64 (first : Int)] false, .cells [.b closed] false, .map [] 0, .cells [.mp 3] false, .cells [.i .i64 (first : Int)] false, .cells [.sl 5 0 1 false 1 (some 1)] false, .cells [.nilfn] false] := ⟨_, rfl⟩
  obtain ⟨B7, hB7⟩ : ∃ B7 : Heap, B7 = [.cells [BB] false, .cells [.i .i64 (first : Int)] false, .cells [.b closed] false, .map [] 0, .cells [.mp 3] false, .cells [.i .i64 (first : Int)] false, .cells [.sl 5 0 1 false 1 (some 1)] false, .cells [sF] false] := ⟨_, rfl⟩
  obtain ⟨CF, hCF⟩ : ∃ CF : TV, CF = .i .i64 (first : Int) := ⟨_, rfl⟩
  obtain ⟨CC, hCC⟩ : ∃ CC : TV, CC = .b closed := ⟨_, rfl⟩
  have x0 : dkc pg (den pg) (.box false) [BB] [] = some (.ref 0 0, A0) := by rw [hBB, hA0, hBB]; exact k_boxP _ _ _
  have x1 : dkc pg (den pg) (.box false) [CF] A0 = some (.ref 1 0, A1) := by rw [hA0, hA1, hCF]; rfl
  have x2 : dkc pg (den pg) (.box false) [CC] A1 = some (.ref 2 0, A2) := by rw [hA1, hA2, hCC]; rfl
  have x3 : dkc pg (den pg) .mkmap [] A2 = some (.mp 3, A3) := by rw [hA2, hA3]; rfl
  have x4 : dkc pg (den pg) (.alloc [.nilmap] false) [] A3 = some (.ref 4 0, A4) := by rw [hA3, hA4]; rfl
  have y4 : dkc pg (den pg) (.st 1) [.ref 4 0, .mp 3] A4 = some (.undef, B4) := by rw [hA4, hB4]; exact st_box (id := 4) rfl rfl
  have l1 : dkc pg (den pg) (.ld 1 false) [.ref 1 0] B4 = some (.i .i64 (first : Int), B4) := by rw [hB4]; exact ld_box (id := 1) rfl rfl
  have x5 : dkc pg (den pg) (.bsl false [.i .i64 0] false 1 [0]) [.i .i64 (first : Int)] B4 = some (.sl 5 0 1 false 1 (some 1), A5) := by rw [k_bsl1, hB4, hA5]; rfl
  have x6 : dkc pg (den pg) (.alloc [.nilsl] false) [] A5 = some (.ref 6 0, A6) := by rw [hA5, hA6]; rfl
  have y6 : dkc pg (den pg) (.st 1) [.ref 6 0, .sl 5 0 1 false 1 (some 1)] A6 = some (.undef, B6) := by rw [hA6, hB6]; exact st_box (id := 6) rfl rfl
  have x7 : dkc pg (den pg) (.alloc [.nilfn] false) [] B6 = some (.ref 7 0, A7) := by rw [hB6, hA7]; rfl
  have y7 : dkc pg (den pg) (.st 1) [.ref 7 0, sF] A7 = some (.undef, B7) := by rw [hA7, hB7]; exact st_box (id := 7) rfl rfl
  have mk : dkc pg (den pg) (.mkfn 89 0) [.ref 2 0, .ref 0 0, .ref 1 0, .ref 4 0, .ref 6 0, .ref 7 0] A7 = some (sF, A7) := rfl
  have hS : SE r c first closed B7 (.sl 5 0 1 false 1 (some 1)) [(first : Int)] := by
    rw [hB7, hBB]
    exact ⟨rfl, rfl, rfl, ⟨[], 0, rfl, fun x hx => by simp at hx⟩, rfl, rfl, rfl, .inr ⟨5, (first : Int), rfl, rfl, rfl⟩, fun id hid => .inl (Option.some.inj hid).symm⟩
  have z7 := ld_box (pg := pg) (R := den pg) hS.s rfl
  have z0 := ld_box (pg := pg) (R := den pg) hS.b rfl
  rw [← hBB] at z0
  have z1 := ld_box (pg := pg) (R := den pg) hS.f rfl
  have c81 := call81 (pg := pg) (bo := true) hF h B7
  rw [← hBB] at c81
  have ws := wrap_u (m := first) (by omega)
  have sh := Dn.shl_u (k := .u64) (c := first) (by omega)
  have an := andN_uu (m := 2 ^ (r * c) - 1) (k := 2 ^ first) (by omega)
  rw [show andN (2 ^ (r * c) - 1) (2 ^ first) = left by rw [hleft]; rfl] at an
  obtain ⟨v, H', O', q, b1, b2, b3, b4, _, _, _⟩ := sp B7 _ _ hS (by simp) (by simp)
  have b1' : callRun pg (den pg) .sh [sF, .i .i64 (first : Int), .i .u64 (left : Int)] B7 = some (.b v, H') := by rw [sF, sh_fn]; exact b1
  have l6 := ld_box (pg := pg) (R := den pg) b2.o b2.w.one.1
  rw [← hleft]
  have hS0 := hF.S 61 [.bp true (.agg (bM r c)), .i .i64 (first : Int), .b closed] (by decide)
  generalize 2 ^ (r * c) - 1 = AA at *
  generalize 2 ^ first = UU at *
  obtain ⟨SF, hSF⟩ : ∃ SF, SF = sF := ⟨_, rfl⟩
  rw [← hSF] at mk y7 z7 b1'
  cases v with
  | true =>
    refine .inr ⟨q, O', H', ?_, by simpa [nI] using b2.w, b3 rfl⟩
    rw [← hBB, ← hCF, ← hCC]
    refine body_of (x := .ret) (e := [(6, O')]) (d := d61) (by rw [hF.F]; rfl) rfl ?_ (.inl rfl) rfl
    simp (disch := omega) [d61, c61, zipE, go_nil, go_last, go_past, go_pastR, go_blkN, go_blkR, go_blkE, go_skip, go_exit, go_ret, go_scope, go_seq, go_reg, go_regd, go_opdN, go_opd, go_opdG, grdd_b, grdd_u, stpd_some, find_some, go_block, go_cond, cnd_b, go_opsN, go_ops, go_opsG, grd_b, grd_u, stp_some, fin_some, up_some, cont_some, k_call, k_mv, k_pick, k_bin, k_eqB, k_eqA, k_not, k_neg, k_conv, k_alloc, k_boxA, k_boxI, k_boxB, k_boxN, k_boxBs, k_ldR, k_ldA, k_ldI, k_ldB, k_stA, k_stI, k_stB, ldC_some, stC_some, k_mkfn, k_slc, k_slcA, k_ixA, k_ixBs, k_ixSl, k_fadr, k_fld, k_ext, k_len, k_app, k_mn, k_mx, k_nilck, k_build, k_bsl1, k_bsl2, b_add, b_sub, b_mul, b_eql, b_neq, b_lss, b_leq, b_gtr, b_geq, Dn.setLast, Dn.getLast, evalO, mapO, Dn.get, putE, keepE_nil, keepE_cons, kp_some, kp_none, TV.one, TV.isAgg, Dn.part, k_boxR, negb, at0, at1, at2, at3, at4, dT, dF, wrapR_i64, Option.bind_some, Option.map_some, x0, x1, x2, x3, x4, y4, l1, x5, x6, y6, x7, mk, y7, z7, z0, z1, c81, ws, sh, an, b1', l6]
  | false =>
    refine .inl ⟨⟨H', ?_⟩, (b4 rfl).2⟩
    rw [← hBB, ← hCF, ← hCC]
    refine body_of (x := .ret) (e := [(6, .nilsl)]) (d := d61) (by rw [hF.F]; rfl) rfl ?_ (.inl rfl) rfl
    simp (disch := omega) [d61, c61, zipE, go_nil, go_last, go_past, go_pastR, go_blkN, go_blkR, go_blkE, go_skip, go_exit, go_ret, go_scope, go_seq, go_reg, go_regd, go_opdN, go_opd, go_opdG, grdd_b, grdd_u, stpd_some, find_some, go_block, go_cond, cnd_b, go_opsN, go_ops, go_opsG, grd_b, grd_u, stp_some, fin_some, up_some, cont_some, k_call, k_mv, k_pick, k_bin, k_eqB, k_eqA, k_not, k_neg, k_conv, k_alloc, k_boxA, k_boxI, k_boxB, k_boxN, k_boxBs, k_ldR, k_ldA, k_ldI, k_ldB, k_stA, k_stI, k_stB, ldC_some, stC_some, k_mkfn, k_slc, k_slcA, k_ixA, k_ixBs, k_ixSl, k_fadr, k_fld, k_ext, k_len, k_app, k_mn, k_mx, k_nilck, k_build, k_bsl1, k_bsl2, b_add, b_sub, b_mul, b_eql, b_neq, b_lss, b_leq, b_gtr, b_geq, Dn.setLast, Dn.getLast, evalO, mapO, Dn.get, putE, keepE_nil, keepE_cons, kp_some, kp_none, TV.one, TV.isAgg, Dn.part, k_boxR, negb, at0, at1, at2, at3, at4, dT, dF, wrapR_i64, Option.bind_some, Option.map_some, x0, x1, x2, x3, x4, y4, l1, x5, x6, y6, x7, mk, y7, z7, z0, z1, c81, ws, sh, an, b1', l6]

end Go.Proofs.Tryd.Dn

/-
  Knight: a way through all squares is a tour; when there is none, by search.
-/

namespace Go.Proofs.Tryd.Dn
open Go.Dn

/-! a tour from a way -/
theorem Compl.steps {c first : Nat} {closed : Bool} : ∀ (q : List Nat) (at_ left : Nat), Compl c first closed at_ left q → (∀ i, i < q.length → near c ((at_ :: q).getD i 0) (q.getD i 0) = true) ∧ (closed = true → near c ((at_ :: q).getD q.length 0) first = true)
  | [], at_, left, h => ⟨fun i hi => by simp at hi, fun hc => h.2 hc⟩
  | s :: q, at_, left, h => by
    obtain ⟨h1, h2, h3⟩ := h
    obtain ⟨i1, i2⟩ := Compl.steps q s _ h3
    refine ⟨fun i hi => ?_, fun hc => ?_⟩
    · cases i with
      | zero => exact h1
      | succ i => exact i1 i (by simpa using hi)
    · exact i2 hc

theorem nI_getD (l : List Nat) (i : Nat) : (nI l).getD i 0 = ((l.getD i 0 : Nat) : Int) := by
  unfold nI
  rw [List.getD_eq_getElem?_getD, List.getD_eq_getElem?_getD, List.getElem?_map]
  cases l[i]? <;> rfl

theorem nI_nodup {l : List Nat} (h : l.Nodup) : (nI l).Nodup := by
  unfold nI
  induction l with
  | nil => simp
  | cons x l ih =>
    rw [List.nodup_cons] at h
    rw [List.map_cons, List.nodup_cons]
    exact ⟨fun hm => h.1 (nI_mem.1 hm), ih h.2⟩

theorem compl_tour {r c first : Nat} {closed : Bool} (h : Brd r c) (hf : first < r * c) {q : List Nat} (hc : Compl c first closed first (allBut (r * c) first) q) : tourB r c (nI (first :: q)) = true ∧ (closed = true → endsB c (nI (first :: q)) = true) := by
  have hn := h.n36
  have hl : allBut (r * c) first < 18446744073709551616 := by
    have : 2 ^ (r * c) ≤ 2 ^ 36 := Nat.pow_le_pow_right (by decide) hn
    exact Nat.lt_of_le_of_lt (andN_le _ _ (by omega)) (by omega)
  have hm : ∀ t, t ∈ q ↔ t < r * c ∧ t ≠ first := fun t => by
    rw [Compl.mem q _ _ hl hc t, allBut_bit hn hf]
    simp
  have hnd : (first :: q).Nodup := List.nodup_cons.2 ⟨fun hx => ((hm first).1 hx).2 rfl, compl_nodup q _ _ hl hc⟩
  have hin : ∀ t, t ∈ first :: q ↔ t < r * c := fun t => by
    rw [List.mem_cons, hm t]
    constructor
    · rintro (rfl | h)
      · exact hf
      · exact h.1
    · intro ht
      by_cases hx : t = first
      · exact .inl hx
      · exact .inr ⟨ht, hx⟩
  have hlen : (first :: q).length = r * c := by
    have h1 := sub_len (first :: q) (List.range (r * c)) hnd fun x hx => List.mem_range.2 ((hin x).1 hx)
    have h2 := sub_len (List.range (r * c)) (first :: q) List.nodup_range fun x hx => (hin x).2 (List.mem_range.1 hx)
    rw [List.length_range] at h1 h2
    omega
  obtain ⟨s1, s2⟩ := hc.steps
  have hgd : ∀ i, i < r * c → (first :: q).getD i 0 < r * c := fun i hi => by
    rw [List.getD_eq_getElem?_getD, List.getElem?_eq_getElem (by omega)]
    exact (hin _).1 (List.getElem_mem _)
  refine ⟨?_, fun hcl => ?_⟩
  · unfold tourB
    rw [nI_len, dT hlen, dT (nI_nodup hnd), Bool.true_and, Bool.and_true]
    unfold isWay
    rw [nI_len, hlen, dT (show 0 < r * c by omega), Bool.and_true, List.all_eq_true]
    intro i hi
    have hi := List.mem_range.1 hi
    have g1 := hgd i hi
    unfold wayAt
    simp only [nI_getD, Int.toNat_natCast]
    rw [dT (show (0 : Int) ≤ (((first :: q).getD i 0 : Nat) : Int) by omega), dT (show (((first :: q).getD i 0 : Nat) : Int) < ((r * c : Nat) : Int) by omega), Bool.true_and, Bool.true_and]
    cases i with
    | zero => rfl
    | succ j =>
      have := s1 j (by simp at hlen; omega)
      rw [Bool.or_eq_true]
      exact .inr this
  · unfold endsB
    simp only [nI_len, nI_getD, Int.toNat_natCast]
    show near c first _ = true
    rw [near_comm]
    have := s2 hcl
    simpa using this

/-! none, by search -/
def prn (u left : Nat) : List (Nat × Nat) → Nat → Bool
  | [], _ => false
  | x :: T, b => if left.testBit x.1 then (if x.2 &&& u = 0 then true else if drop1 (x.2 &&& u) = 0 then (match b with | 0 => true | b + 1 => prn u left T b) else prn u left T b) else prn u left T b
def sr (T : List (Nat × Nat)) (n first : Nat) (closed : Bool) : Nat → Nat → Nat → Bool
  | 0, _, _ => true
  | f + 1, at_, left =>
    if left = 0 then (!closed || (T.getD at_ (0, 0)).2.testBit first)
    else if prn (useM at_ first left closed) left T (if closed = true then 0 else 1) then false
    else (List.range n).any fun s => ((T.getD at_ (0, 0)).2 &&& left).testBit s && sr T n first closed f s (left ^^^ 2 ^ s)
def tbl (r c : Nat) : List (Nat × Nat) := (List.range (r * c)).map fun s => (s, mv r c s)

theorem pop_parts {x : Nat} (h0 : 0 < x) (hx : x < 18446744073709551616) : pop 64 x = 1 + pop 64 (drop1 x) := by
  rw [← mem64_len, ← mem64_len, (mem64_step h0 hx).1, List.length_cons]; omega
theorem pop_zeroT : pop 64 0 = 0 := by rw [← mem64_len, mem64_zero]; rfl

theorem prn_ends {r c u left : Nat} (hu : u < 18446744073709551616) : ∀ (L : List Nat) (b a : Nat), prn u left (L.map fun s => (s, mv r c s)) b = true → endsL r c u (L.filter fun s => left.testBit s) a = none ∨ ∃ e, endsL r c u (L.filter fun s => left.testBit s) a = some e ∧ a + b < e
  | [], b, a, h => by cases h
  | s :: L, b, a, h => by
    rw [List.map_cons] at h
    unfold prn at h
    rw [List.filter_cons]
    cases hs : left.testBit s with
    | false =>
      rw [hs] at h
      simp only [Bool.false_eq_true, if_false] at h ⊢
      exact prn_ends hu L b a h
    | true =>
      rw [hs] at h
      simp only [if_true] at h ⊢
      rw [endsL]
      have hw : mv r c s &&& u < 18446744073709551616 := Nat.lt_of_le_of_lt Nat.and_le_right hu
      generalize mv r c s &&& u = w at *
      by_cases h0 : w = 0
      · rw [h0, pop_zeroT, if_pos rfl]; exact .inl rfl
      · rw [if_neg h0] at h
        have hp := pop_parts (x := w) (by omega) hw
        rw [if_neg (by omega)]
        have hd : drop1 w < 18446744073709551616 := Nat.lt_of_lt_of_le (mem64_step (x := w) (by omega) hw).2 (by omega)
        by_cases h1 : drop1 w = 0
        · rw [if_pos h1] at h
          rw [h1, pop_zeroT] at hp
          rw [if_pos hp]
          cases b with
          | zero =>
            cases he : endsL r c u (L.filter fun s => left.testBit s) (a + 1) with
            | none => exact .inl rfl
            | some e =>
              have := endsL_count _ _ _ he
              exact .inr ⟨e, rfl, by omega⟩
          | succ b =>
            rcases prn_ends hu L b (a + 1) h with g | ⟨e, g1, g2⟩
            · exact .inl g
            · exact .inr ⟨e, g1, by omega⟩
        · rw [if_neg h1] at h
          have hp2 := pop_parts (x := drop1 w) (by omega) hd
          rw [if_neg (by omega)]
          exact prn_ends hu L b a h

theorem tbl_at {r c s : Nat} (hs : s < r * c) : (tbl r c).getD s (0, 0) = (s, mv r c s) := by
  unfold tbl
  rw [List.getD_eq_getElem?_getD, List.getElem?_map, List.getElem?_range hs]
  rfl

theorem sr_none {r c first : Nat} {closed : Bool} (h : Brd r c) (hfst : first < r * c) : ∀ (f at_ left : Nat), at_ < r * c → left < 2 ^ (r * c) → left.testBit at_ = false → (closed = true → left.testBit first = false) →
    (closed = true → at_ = first → ∀ s, s < r * c → near c at_ s = true → left ≠ 2 ^ s) → sr (tbl r c) (r * c) first closed f at_ left = false → ∀ p, ¬ Compl c first closed at_ left p
  | 0, at_, left, ha, hl, hla, hlf, hedge, hs, p => by cases hs
  | f + 1, at_, left, ha, hl, hla, hlf, hedge, hs, p => by
    have hn := h.n36
    have h64 := lv64 h
    intro hp
    unfold sr at hs
    rw [tbl_at ha] at hs
    by_cases h0 : left = 0
    · rw [if_pos h0] at hs
      subst h0
      cases p with
      | nil =>
        have hs' : (!closed || (mv r c at_).testBit first) = false := hs
        rw [mv_near h ha hfst] at hs'
        cases closed with
        | false => cases hs'
        | true => rw [hp.2 rfl] at hs'; cases hs'
      | cons s p => have := hp.2.1; simp at this
    · rw [if_neg h0] at hs
      by_cases hprn : prn (useM at_ first left closed) left (tbl r c) (if closed = true then 0 else 1) = true
      · refine hope_sound h hfst ha hl hla hlf hedge ?_ p hp
        have hu := useM_lt (closed := closed) ha hfst hl
        have he := prn_ends (r := r) (c := c) (left := left) (by omega) (List.range (r * c)) _ 0 hprn
        rw [← mem64_range (by omega) hl] at he
        unfold hopeB
        rcases he with he | ⟨e, he, he2⟩
        · rw [he]
        · rw [he]
          rw [Nat.zero_add] at he2
          show (if (if closed = true then 0 else 1) < e then true else _) = true
          rw [if_pos he2]
      · rw [if_neg hprn] at hs
        cases p with
        | nil => exact h0 hp.1
        | cons s p =>
          obtain ⟨h1, h2, h3⟩ := hp
          have hsr : s < r * c := by
            apply Classical.byContradiction
            intro hcx
            rw [Nat.testBit_lt_two_pow (Nat.lt_of_lt_of_le hl (Nat.pow_le_pow_right (by decide) (by omega)))] at h2
            cases h2
          have hx : left ^^^ 2 ^ s = andN left (2 ^ s) := by
            apply Nat.eq_of_testBit_eq
            intro t
            rw [andN_two (by omega) (by omega), Nat.testBit_xor, Nat.testBit_two_pow]
            by_cases hts : t = s
            · subst hts; rw [h2, dT rfl]; rfl
            · rw [dF (fun e => hts e.symm), dF hts]; simp
          have hlt : andN left (2 ^ s) < 2 ^ (r * c) := Nat.lt_of_le_of_lt (andN_le _ _ (by omega)) hl
          have hf : sr (tbl r c) (r * c) first closed f s (andN left (2 ^ s)) = false := by
            have hall := List.any_eq_false.1 hs s (List.mem_range.2 hsr)
            rw [hx, Nat.testBit_and, mv_near h ha hsr, h1, h2] at hall
            simpa using hall
          refine sr_none h hfst f s _ hsr hlt ?_ (fun hcl => ?_) (fun hcl hsf => ?_) hf p h3
          · rw [andN_two (by omega) (by omega)]; simp
          · rw [andN_two (by omega) (by omega), hlf hcl]; rfl
          · rw [hsf, hlf hcl] at h2; cases h2

theorem none_of {r c first : Nat} {closed : Bool} (h : Brd r c) (hfst : first < r * c) (hs : sr (tbl r c) (r * c) first closed 40 first (allBut (r * c) first) = false) (p : List Nat) : ¬ Compl c first closed first (allBut (r * c) first) p := by
  have hn := h.n36
  have hpw : 2 ^ (r * c) - 1 < 2 ^ (r * c) := by have := Nat.two_pow_pos (r * c); omega
  have h64 := lv64 h
  have hlf : (allBut (r * c) first).testBit first = false := by rw [allBut_bit hn hfst]; simp
  exact sr_none h hfst 40 first _ hfst (Nat.lt_of_le_of_lt (andN_le _ _ (by omega)) hpw) hlf (fun _ => hlf) (fun _ _ s hs hns => allBut_edge h hfst s hs hns) hs p

/-! a tour shown -/
def complB (c first : Nat) (closed : Bool) : Nat → Nat → List Nat → Bool
  | at_, left, [] => decide (left = 0) && (!closed || near c at_ first)
  | at_, left, s :: p => near c at_ s && left.testBit s && complB c first closed s (andN left (2 ^ s)) p
theorem complB_is {c first : Nat} {closed : Bool} : ∀ (p : List Nat) (at_ left : Nat), complB c first closed at_ left p = true → Compl c first closed at_ left p
  | [], at_, left, h => by
    unfold complB at h
    rw [Bool.and_eq_true] at h
    refine ⟨of_decide_eq_true h.1, fun hc => ?_⟩
    rw [hc] at h
    exact h.2
  | s :: p, at_, left, h => by
    unfold complB at h
    rw [Bool.and_eq_true, Bool.and_eq_true] at h
    exact ⟨h.1.1, h.1.2, complB_is p s _ h.2⟩

end Go.Proofs.Tryd.Dn

