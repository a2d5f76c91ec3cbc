/-
  The reference's twins; the laws of twins run.
-/
import Derived.Test.YtijeefncmgjlpaaTE
set_option linter.unusedSimpArgs false
set_option linter.unusedVariables false

set_option maxHeartbeats 4000000
set_option maxRecDepth 100000
namespace Go.Proofs.Try.Dn
open Go.Dn

theorem one_RowS (H : Heap) (v : Int) : RowS (H ++ [.cells [.i .i64 v] false]) (.sl H.length 0 1 false 1 (some 1)) [v] := ⟨by simp, one_view H v, ⟨_, rfl⟩⟩

theorem die_one {c : Int} (hc : 0 ≤ c ∧ c ≤ 60) : DieL 60 [c] := { le := by simp, ok := fun x hx => by rw [List.mem_singleton.1 hx]; exact hc, srt := by simp, pos := by simp }

theorem fn59 {pg : Pg} (hF : Free pg) {n m : Nat} {c d : Int} {G : Nat → Nat} {M : Nat} (hn : 1 ≤ n ∧ n ≤ 8) (hm : 1 ≤ m ∧ m ≤ 8) (hM : M ≤ 1000) (hc : 0 ≤ c ∧ c ≤ 60) (hd : 0 ≤ d ∧ d ≤ 60) {g0 : Int → Option Nat} (h0 : ∀ j, (g0 j).getD 0 = wtI G M j) (h1 : (g0 (c + d)).getD 0 ≠ 0) :
    PFn pg 59 [.i .i64 (n : Int), .i .i64 (m : Int), .i .i64 c, .i .i64 d, elI.lt true (gL G M)] (LPv (canP (pairsP n m c d g0))) := by
  have hg : Lf G M [c] [d] (subM g0 (c + d)) := fun j => by
    have hw : wn [[c], [d]] j = if c + d = j then 1 else 0 := by
      show ([d].map fun f => ([c].map fun e => wn0 (j - f - e)).sum).sum = _
      simp only [List.map_cons, List.map_nil, List.sum_cons, List.sum_nil, Nat.add_zero]
      unfold wn0
      by_cases h : c + d = j
      · rw [if_pos (by omega), if_pos h]
      · rw [if_neg (by omega), if_neg h]
    have h2 := h0 j
    rw [subM_getD, hw]
    by_cases h : c + d = j
    · subst h
      rw [if_pos rfl]; omega
    · rw [if_neg h]; omega
  obtain ⟨H1, hH1⟩ : ∃ H1, H1 = ([] : Heap) ++ [AObj.cells [.i .i64 c] false] := ⟨_, rfl⟩
  obtain ⟨H2, hH2⟩ : ∃ H2, H2 = H1 ++ [AObj.cells [.i .i64 d] false] := ⟨_, rfl⟩
  have r1 : RowS H1 (.sl 0 0 1 false 1 (some 1)) [c] := by rw [hH1]; exact one_RowS [] c
  have l1 : H1.length = 1 := by rw [hH1]; rfl
  have r2 : RowS H2 (.sl 1 0 1 false 1 (some 1)) [d] := by have := one_RowS H1 d; rw [l1] at this; rw [hH2]; exact this
  have r1' := r1.mono (H' := H2) fun j hj => by rw [hH2, List.getElem?_append_left hj]
  have b1 : dkc pg (den pg) (.bsl false [.i .i64 0] false 1 [0]) [.i .i64 c] [] = some (.sl 0 0 1 false 1 (some 1), H1) := by rw [hH1]; rfl
  have b2 : dkc pg (den pg) (.bsl false [.i .i64 0] false 1 [0]) [.i .i64 d] H1 = some (.sl 1 0 1 false 1 (some 1), H2) := by rw [hH2, hH1]; rfl
  obtain ⟨O', H', q1, q2, -, -⟩ := (body89 (pg := pg) (n := n) (m := m) (c := c) (d := d) (G := G) (M := M) hF hn.2 hm.2 hM 1001 [c] [d] (.sl 0 0 1 false 1 (some 1)) (.sl 1 0 1 false 1 (some 1)) .nilsl [] H2 r1' r2 (die_one hc) (die_one hd) rfl rfl hn.1 hm.1 (PIn.nil H2) (fun p hp => by simp at hp) (by
    simp only [List.length_nil, List.length_singleton, Nat.zero_add]
    have : 2 ^ ((n - 1) + (m - 1)) ≤ 2 ^ 14 := Nat.pow_le_pow_right (by decide) (by omega)
    omega) (by simp only [List.length_singleton]; omega)).1 _ hg
  refine .inr ⟨hF.S _ _, O', H', body_of (x := .ret) (e := [(10, O')]) (d := d59) (by rw [hF.F]; rfl) rfl ?_ (.inl rfl) rfl, q2.fin⟩
  clear hH1 hH2 r1 r2 r1' q2 hg l1
  generalize elI.lt true (gL G M) = W at *
  generalize TV.sl 0 0 1 false 1 (some 1) = A at *
  generalize TV.sl 1 0 1 false 1 (some 1) = B at *
  simp (maxSteps := 1000000) (disch := omega) [d59, c59, zipE, go_nil, go_last, go_past, go_pastR, go_blkN, go_blkR, go_blkE, go_skip, go_exit, go_ret, go_scope, go_seq, go_reg, go_regd, go_opdN, go_opd, go_opdG, grdd_b, grdd_u, stpd_some, find_some, go_block, go_cond, cnd_b, go_opsN, go_ops, go_opsG, grd_b, grd_u, stp_some, fin_some, up_some, cont_some, k_call, k_mv, k_pick, k_bin, k_eqB, k_eqA, k_not, k_neg, k_conv, k_alloc, k_boxA, k_boxI, k_boxB, k_boxN, k_boxBs, k_ldR, k_ldA, k_ldI, k_ldB, k_stA, k_stI, k_stB, ldC_some, stC_some, k_mkfn, k_slc, k_slcA, k_ixA, k_ixBs, k_ixSl, k_fadr, k_fld, k_ext, k_len, k_app, k_mn, k_mx, k_nilck, k_build, k_bsl1, k_bsl2, b_add, b_sub, b_mul, b_eql, b_neq, b_lss, b_leq, b_gtr, b_geq, Dn.setLast, Dn.getLast, evalO, mapO, Dn.get, putE, keepE_nil, keepE_cons, kp_some, kp_none, TV.one, TV.isAgg, Dn.part, k_boxR, negb, at0, at1, at2, at3, at4, dT, dF, wrapR_i64, Option.bind_some, Option.map_some, b1, b2, sh_fn, q1, -k_bsl1]

theorem two_val {pg : Pg} (a b : List Int) (H : Heap) : ∃ H1, H1 = H ++ [AObj.cells [elI.lt true a, elI.lt true b] false] ∧ dkc pg (den pg) (.bsl false [.nilsl] false 2 [0, 1]) [elI.lt true a, elI.lt true b] H = some (.sl H.length 0 1 false 2 (some 2), H1) ∧ snap .borrow H1 9 (.sl H.length 0 1 false 2 (some 2)) = some ((elR true).lt true [a, b]) := by
  have h1 : ∀ x : List Int, (elI.lt true x).cells = [elI.lt true x] := fun x => by cases x <;> rfl
  have s8 : ∀ (x : List Int) (K : Heap), snap .borrow K 8 (elI.lt true x) = some (elI.lt true x) := fun x K => snap_ints true K 6 x
  refine ⟨_, rfl, by simp [dkc, dk, fillP, repl, put2, h1, El.lt_one], ?_⟩
  rw [sn_sl _ (by decide), getLast, slB_some]
  simp [sn_i, sn_b, sn_nil, sn8_i, sn8_b, sn8_nil, sn7_i, sn7_b, sn_sl, sn8_sl, slB_some, sn_tup, sn_agg, sn8_agg, mapO, elems, s8]
  rfl

theorem fn22 {pg : Pg} (hF : Free pg) {a b : List Int} (hA : DieL 60 a) (hB : DieL 60 b) : PFn pg 22 [elI.lt true a, elI.lt true b] (LPv (twinsL a b)) := by
  have hD2 : ∀ x ∈ [a, b], DieL 60 x := fun x hx => by simp at hx; rcases hx with rfl | rfl <;> assumption
  obtain ⟨H1, -, bs, sb⟩ := two_val (pg := pg) a b []
  have c46 := PFn.call (fn46 (pg := pg) hF (elR_SSV true true [a, b]) (by simp) hD2) (args := [.sl 0 0 1 false 2 (some 2)]) (ks := []) (fs := []) (cs := []) (H := H1) (by have : snap .borrow H1 9 (.sl 0 0 1 false 2 (some 2)) = some ((elR true).lt true [a, b]) := sb; simp [snapArgs, this])
  have hR : refW [a, b] = gL (fun t => wn [a, b] (t : Int)) (mxS [a, b]) := rfl
  rw [hR] at c46
  have hmx := mxS_le hD2
  simp only [List.length_cons, List.length_nil] at hmx
  obtain ⟨c, hc⟩ : ∃ c, a[0]? = some c := ⟨_, List.getElem?_eq_getElem hA.pos⟩
  obtain ⟨d, hd⟩ : ∃ d, b[0]? = some d := ⟨_, List.getElem?_eq_getElem hB.pos⟩
  have ec : a.getD 0 0 = c := by rw [List.getD_eq_getElem?_getD, hc]; rfl
  have ed : b.getD 0 0 = d := by rw [List.getD_eq_getElem?_getD, hd]; rfl
  have hc6 := hA.ok c (List.mem_of_getElem? hc)
  have hd6 := hB.ok d (List.mem_of_getElem? hd)
  have f59 := fn59 (pg := pg) hF (n := a.length) (m := b.length) (c := c) (d := d) (G := fun t => wn [a, b] (t : Int)) (M := mxS [a, b]) (g0 := fun k => posO (wn [a, b] k)) ⟨hA.pos, hA.le⟩ ⟨hB.pos, hB.le⟩ (by omega) hc6 hd6 (fun j => by
    rw [posO_getD]
    unfold wtI
    split
    · rename_i h
      show _ = wn [a, b] ((j.toNat : Nat) : Int)
      rw [show ((j.toNat : Nat) : Int) = j by omega]
    · rename_i h
      exact Classical.byContradiction fun h0 => h (wn_mx hD2 2 (by simp) j h0)) (by
    rw [posO_getD]
    exact wn2_ne.2 ⟨d, List.mem_of_getElem? hd, c, List.mem_of_getElem? hc, rfl⟩)
  have c59 := PFn.call f59 (args := [.i .i64 (a.length : Int), .i .i64 (b.length : Int), .i .i64 c, .i .i64 d, elI.lt false (gL (fun t => wn [a, b] (t : Int)) (mxS [a, b]))]) (ks := []) (fs := []) (cs := []) (H := H1) (by simp [snapArgs, sn_i, El.lt_snap elI_flat])
  obtain ⟨p, p1, p2⟩ := ixI (pg := pg) (R := den pg) (ltV elI true [] a) hc
  obtain ⟨q, q1, q2⟩ := ixI (pg := pg) (R := den pg) (ltV elI true [] b) hd
  have la := lnB elI true a
  have lb := lnB elI true b
  have bs : dkc pg (den pg) (.bsl false [.nilsl] false 2 [0, 1]) [elI.lt true a, elI.lt true b] [] = some (.sl 0 0 1 false 2 (some 2), H1) := bs
  have htw : canP (pairsP a.length b.length c d fun k => posO (wn [a, b] k)) = twinsL a b := by unfold twinsL; rw [ec, ed]
  rw [htw] at c59
  have sf : snap .fin H1 9 (LPv (twinsL a b)) = some (LPv (twinsL a b)) := snap_pairsF H1 5 (twinsL a b)
  refine .of1 (x := .ret) (e := [(4, LPv (twinsL a b))]) (H' := H1) (hF.S _ _) (d := d22) (by rw [hF.F]; rfl) rfl ?_ (.inl rfl) rfl sf
  clear sf htw f59 hR hD2 sb hA hB
  simp only [Int.natCast_zero] at p1 q1
  generalize elI.lt true a = A at *
  generalize elI.lt true b = B at *
  generalize elI.lt false (gL (fun t => wn [a, b] (t : Int)) (mxS [a, b])) = W at *
  generalize TV.sl 0 0 1 false 2 (some 2) = SS at *
  generalize (a.length : Int) = al at *
  generalize (b.length : Int) = bl at *
  generalize LPv (twinsL a b) = R at *
  simp (maxSteps := 1000000) (disch := omega) [d22, c22, zipE, go_nil, go_last, go_past, go_pastR, go_blkN, go_blkR, go_blkE, go_skip, go_exit, go_ret, go_scope, go_seq, go_reg, go_regd, go_opdN, go_opd, go_opdG, grdd_b, grdd_u, stpd_some, find_some, go_block, go_cond, cnd_b, go_opsN, go_ops, go_opsG, grd_b, grd_u, stp_some, fin_some, up_some, cont_some, k_call, k_mv, k_pick, k_bin, k_eqB, k_eqA, k_not, k_neg, k_conv, k_alloc, k_boxA, k_boxI, k_boxB, k_boxN, k_boxBs, k_ldR, k_ldA, k_ldI, k_ldB, k_stA, k_stI, k_stB, ldC_some, stC_some, k_mkfn, k_slc, k_slcA, k_ixA, k_ixBs, k_ixSl, k_fadr, k_fld, k_ext, k_len, k_app, k_mn, k_mx, k_nilck, k_build, k_bsl1, k_bsl2, b_add, b_sub, b_mul, b_eql, b_neq, b_lss, b_leq, b_gtr, b_geq, Dn.setLast, Dn.getLast, evalO, mapO, Dn.get, putE, keepE_nil, keepE_cons, kp_some, kp_none, TV.one, TV.isAgg, Dn.part, k_boxR, negb, at0, at1, at2, at3, at4, dT, dF, wrapR_i64, Option.bind_some, Option.map_some, la, lb, p1, p2, q1, q2, bs, c46, c59, -k_bsl1]

theorem canP_short {n m : Nat} {c d : Int} {k : Nat} {a b : List Int} {g : Int → Option Nat} (hn : n ≤ 8) (hm : m ≤ 8) (ha : a.length ≤ n) (hb : b.length ≤ m) : Short (canP (growP n m c d k a b g)) ∧ (canP (growP n m c d k a b g)).length ≤ 1000000 := by
  constructor
  · intro p hp
    have := (Szs.fold (o := []) (fun p hp => by simp at hp) (growP_sz n m c d k a b g ha hb)) p hp
    omega
  · have h1 := foldP_len (growP n m c d k a b g) []
    have h2 := growP_len n m c d k a b g ha hb
    have h3 : 2 ^ ((n - a.length) + (m - b.length)) ≤ 2 ^ 16 := Nat.pow_le_pow_right (by decide) (by omega)
    unfold canP
    simp only [List.length_nil, Nat.zero_add] at h1
    omega

theorem twins_short {a b : List Int} (hA : DieL 60 a) (hB : DieL 60 b) : Short (twinsL a b) ∧ (twinsL a b).length ≤ 1000000 := canP_short hA.le hB.le hA.pos hB.pos

theorem call21 {pg : Pg} (hF : Free pg) (a b : List PL) (ha : a.length ≤ 1000000) (hb : b.length ≤ 1000000) (sa : Short a) (sb : Short b) (H : Heap) : callRun pg (den pg) (.pu []) [.fn 21 [] [], LPv a, LPv b] H = some (.b (decide (a = b)), H) := by
  have s : ∀ x : List PL, snap .borrow H 9 (LPv x) = some ((elS true).lt true x) := fun x => snap_pairs false false H 5 x
  exact PFn.call (fn21 hF a b ha hb sa sb) (args := [LPv a, LPv b]) (ks := []) (fs := []) (cs := []) (by simp [snapArgs, s])

theorem call22 {pg : Pg} (hF : Free pg) {c d : Bool} {a b : List Int} (hA : DieL 60 a) (hB : DieL 60 b) (H : Heap) : callRun pg (den pg) (.pu []) [.fn 22 [] [], elI.lt c a, elI.lt d b] H = some (LPv (twinsL a b), H) :=
  PFn.call (fn22 hF hA hB) (args := [elI.lt c a, elI.lt d b]) (ks := []) (fs := []) (cs := []) (by simp [snapArgs, El.lt_snap elI_flat])

theorem call20 {pg : Pg} (hF : Free pg) (hQ : pg.Q 81 = some 2) {c d : Bool} {a b : List Int} (hA : DieL 60 a) (hB : DieL 60 b) (H : Heap) : callRun pg (den pg) (.pu []) [.fn 20 [] [], elI.lt c a, elI.lt d b] H = some (.tup [LPv (twinsL a b), .i .i64 0], H) := by
  have hrow : Row 60 6 [a, b] := ⟨fun x hx => by simp at hx; rcases hx with rfl | rfl <;> assumption, by simp, by simp⟩
  exact PFn.call (fn20 hF hQ (SV.lt true a) (SV.lt true b) (chk_row hrow (by omega) (by omega))) (args := [elI.lt c a, elI.lt d b]) (ks := []) (fs := []) (cs := []) (by simp [snapArgs, El.lt_snap elI_flat])

theorem call19 {pg : Pg} (hF : Free pg) {A : TV} {l : List Int} (hA : SV A l) (hl : l.length ≤ 9223372036854775807) {most : Nat} (hm : most ≤ 1000) (H : Heap) : ∃ d, DieL most d ∧ callRun pg (den pg) (.pu []) [.fn 19 [] [], A, .i .i64 (most : Int)] H = some (elI.lt false d, H) := by
  obtain ⟨A', s1, s2⟩ := hA.snap H 7
  obtain ⟨d, h1, h2⟩ := fn19 (pg := pg) hF s2 hl hm
  exact ⟨d, h2, PFn.call h1 (args := [A, .i .i64 (most : Int)]) (ks := []) (fs := []) (cs := []) (by simp [snapArgs, s1, sn_i])⟩

theorem die_take {m : Int} {a : List Int} (hA : DieL m a) {k : Nat} (hk : 1 ≤ k) : DieL m (a.take k) :=
  { le := Nat.le_trans (by simp; omega) hA.le, ok := fun x hx => hA.ok x (List.mem_of_mem_take hx), srt := hA.srt.sublist (List.take_sublist _ _), pos := by rw [List.length_take]; have := hA.pos; omega }

theorem slc5 (a : List Int) (hp : 1 ≤ a.length) : ∀ H : Heap, slcRun false true false 1 false (elI.lt false a) [.i .i64 ((min a.length 5 : Nat) : Int)] = some (elI.lt false (a.take 5)) := fun H => by
  have hne : a ≠ [] := by intro e; rw [e] at hp; simp at hp
  have hne2 : a.take 5 ≠ [] := by intro e; have := congrArg List.length e; rw [List.length_take] at this; simp only [List.length_nil] at this; omega
  rw [El.lt_ne hne, El.lt_ne hne2]
  have ek : a.take 5 = a.take (min a.length 5) := by
    rcases Nat.lt_or_ge a.length 5 with h | h
    · rw [show min a.length 5 = a.length by omega, List.take_length, List.take_of_length_le (by omega)]
    · rw [show min a.length 5 = 5 by omega]
  have hk : min a.length 5 ≤ a.length := by omega
  rw [ek]
  generalize min a.length 5 = k at *
  have hb : bounds3 false true false (a.map elI.val).length [.i .i64 (k : Int)] = some (0, k, none) := by
    simp [bounds3, bound, hk]
  simp only [slcRun, hb, Option.bind_some]
  have e1 : elI.sz = 1 := rfl
  simp [e1, List.map_take, hk]

theorem run4 {pg : Pg} (hF : Free pg) (hQ : pg.Q 81 = some 2) (h23 : PFn pg 23 [] (.b true)) {S T : TV} {k l : List Int} (hS : SV S k) (hk : k.length ≤ 9223372036854775807) (hT : SV T l) (hl : l.length ≤ 9223372036854775807) : ∃ H, bodyRun pg (den pg) 4 [S, T] [] = some (.b true, H) := by
  obtain ⟨a, hA, c1⟩ := call19 (pg := pg) hF hS hk (most := 60) (by omega) []
  obtain ⟨b, hB, c2⟩ := call19 (pg := pg) hF hT hl (most := 60) (by omega) []
  have hA5 := die_take hA (k := 5) (by omega)
  have hB5 := die_take hB (k := 5) (by omega)
  have c20 := call20 (pg := pg) hF hQ (c := false) (d := false) hA5 hB5 []
  have c22 := call22 (pg := pg) hF (c := false) (d := false) hA5 hB5 []
  obtain ⟨s1, s2⟩ := twins_short hA5 hB5
  have c21 := call21 (pg := pg) hF _ _ s2 s2 s1 s1 []
  rw [decide_eq_true rfl] at c21
  have c23 := PFn.call h23 (args := []) (ks := []) (fs := []) (cs := []) (H := []) (by simp [snapArgs])
  have la := lnB elI false a
  have lb := lnB elI false b
  have sa := slc5 a hA.pos []
  have sb := slc5 b hB.pos []
  have m1 : (if (5 : Int) < (a.length : Int) then (5 : Int) else (a.length : Int)) = ((min a.length 5 : Nat) : Int) := by split <;> omega
  have m2 : (if (5 : Int) < (b.length : Int) then (5 : Int) else (b.length : Int)) = ((min b.length 5 : Nat) : Int) := by split <;> omega
  refine ⟨[], body_of (x := .ret) (e := [(4, .b true)]) (d := d4) (by rw [hF.F]; rfl) rfl ?_ (.inl rfl) rfl⟩
  simp only [Int.cast_ofNat_Int] at c1 c2
  clear hS hT hA hB s1 s2 hA5 hB5
  generalize ((min a.length 5 : Nat) : Int) = M1 at *
  generalize ((min b.length 5 : Nat) : Int) = M2 at *
  generalize (a.length : Int) = la0 at *
  generalize (b.length : Int) = lb0 at *
  generalize elI.lt false a = A at *
  generalize elI.lt false b = B at *
  generalize elI.lt false (a.take 5) = A5 at *
  generalize elI.lt false (b.take 5) = B5 at *
  generalize LPv (twinsL (a.take 5) (b.take 5)) = R at *
  simp (maxSteps := 1000000) (disch := omega) [d4, c4, zipE, go_nil, go_last, go_past, go_pastR, go_blkN, go_blkR, go_blkE, go_skip, go_exit, go_ret, go_scope, go_seq, go_reg, go_regd, go_opdN, go_opd, go_opdG, grdd_b, grdd_u, stpd_some, find_some, go_block, go_cond, cnd_b, go_opsN, go_ops, go_opsG, grd_b, grd_u, stp_some, fin_some, up_some, cont_some, k_call, k_mv, k_pick, k_bin, k_eqB, k_eqA, k_not, k_neg, k_conv, k_alloc, k_boxA, k_boxI, k_boxB, k_boxN, k_boxBs, k_ldR, k_ldA, k_ldI, k_ldB, k_stA, k_stI, k_stB, ldC_some, stC_some, k_mkfn, k_slc, k_slcA, k_ixA, k_ixBs, k_ixSl, k_fadr, k_fld, k_ext, k_len, k_app, k_mn, k_mx, k_nilck, k_build, k_bsl1, k_bsl2, b_add, b_sub, b_mul, b_eql, b_neq, b_lss, b_leq, b_gtr, b_geq, Dn.setLast, Dn.getLast, evalO, mapO, Dn.get, putE, keepE_nil, keepE_cons, kp_some, kp_none, TV.one, TV.isAgg, Dn.part, k_boxR, negb, at0, at1, at2, at3, at4, dT, dF, wrapR_i64, Option.bind_some, Option.map_some, c1, c2, la, lb, k_mn, m1, m2, sa, sb, c20, c22, c21, c23]

end Go.Proofs.Try.Dn

