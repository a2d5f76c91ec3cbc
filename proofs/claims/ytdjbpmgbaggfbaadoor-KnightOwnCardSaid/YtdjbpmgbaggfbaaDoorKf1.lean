/-
  Knight: the moves from a square, listed.
-/
import Derived.Test.YtdjbpmgbaggfbaaDoorKe
set_option linter.unusedSimpArgs false
set_option linter.unusedVariables false

namespace Go.Proofs.Tryd.Dn
open Go.Dn

theorem one_v (a : Int) : elI.View [.cells [.i .i64 a] false] (.sl 0 0 1 false 1 (some 1)) [a] :=
  .inr (.inr ⟨0, 0, some 1, _, false, rfl, by simp, rfl, by simp [elI], by simp [elI, El.flat]⟩)

def movesOf (r c s : Nat) : List Nat := mem64 (mv r c s)

theorem body28 {pg : Pg} (hF : Free pg) {r c a : Nat} (h : Brd r c) (ha : a < r * c) :
    ∃ R H', bodyRun pg (den pg) 28 [.i .i64 (r : Int), .i .i64 (c : Int), .i .i64 (a : Int)] [] = some (.tup [R, .i .i64 0], H') ∧ elI.Own H' R (nI (movesOf r c a)) := by
  have hn := h.n36
  obtain ⟨H0, hH0⟩ : ∃ H0 : Heap, H0 = [.cells [.i .i64 (a : Int)] false] := ⟨_, rfl⟩
  have hv : elI.View H0 (.sl 0 0 1 false 1 (some 1)) [(a : Int)] := by rw [hH0]; exact one_v _
  obtain ⟨H1, h1, h2, h3, h4⟩ := body59 hF h hv (by simp)
  have hno : [(a : Int)].any (outB ((r * c : Nat) : Int)) = false := by rw [List.any_cons, inB ha]; rfl
  have hl0 : H0.length = 1 := by rw [hH0]; rfl
  rw [hno, hl0] at h1
  rw [hl0] at h2 h3
  simp only [Bool.false_eq_true, if_false] at h1
  have hd : pg.F 28 = some d28 := by rw [hF.F]; rfl
  have kb : dkc pg (den pg) (.bsl false [.i .i64 0] false 1 [0]) [.i .i64 (a : Int)] [] = some (.sl 0 0 1 false 1 (some 1), H0) := by rw [k_bsl1, hH0]; rfl
  have ix := ix_m (pg := pg) (R := den pg) (M := 1) (k := .i64) (s := a) (by omega) H1
  have ld := ld_m (pg := pg) (R := den pg) h2 (s := a) (by omega)
  have hmv : mvTo r c (r * c) a = mv r c a := by unfold mvTo; rw [if_pos ha]
  rw [hmv] at ld
  have hlt : mv r c a < 18446744073709551616 := Nat.lt_trans (mv_bound h ha) (by have := Nat.pow_le_pow_right (n := 2) (by decide) hn; omega)
  obtain ⟨R, H2, c64, hR, _⟩ := body64 (pg := pg) hF hlt H1
  refine ⟨R, H2, body_ofs (x := .ret) (e := [(6, R), (7, .i .i64 0)]) (vs := [R, .i .i64 0]) hd rfl ?_ (.inl rfl) rfl, hR⟩
  simp [d28, c28, zipE, go_nil, go_last, go_past, go_pastR, go_blkN, go_blkR, go_blkE, go_skip, go_exit, go_ret, go_scope, go_seq, go_reg, go_regd, go_opdN, go_opd, go_opdG, grdd_b, grdd_u, stpd_some, find_some, go_block, go_cond, cnd_b, go_opsN, go_ops, go_opsG, grd_b, grd_u, stp_some, fin_some, up_some, cont_some, k_call, k_mv, k_pick, k_bin, k_eqB, k_eqA, k_not, k_neg, k_conv, k_alloc, k_boxA, k_boxI, k_boxB, k_boxN, k_boxBs, k_ldR, k_ldA, k_ldI, k_ldB, k_stA, k_stI, k_stB, ldC_some, stC_some, k_mkfn, k_slc, k_slcA, k_ixA, k_ixBs, k_ixSl, k_fadr, k_fld, k_ext, k_len, k_app, k_mn, k_mx, k_nilck, k_build, k_bsl1, k_bsl2, b_add, b_sub, b_mul, b_eql, b_neq, b_lss, b_leq, b_gtr, b_geq, Dn.setLast, Dn.getLast, evalO, mapO, Dn.get, putE, keepE, TV.one, TV.isAgg, Dn.part, kb, sh_fn, h1, ix, ld, c64]

end Go.Proofs.Tryd.Dn

/-
  Knight: the squares around a set.
-/

namespace Go.Proofs.Tryd.Dn
open Go.Dn

def orAll (r c : Nat) (m : Nat) (l : List Nat) : Nat := l.foldl (fun m s => m ||| mv r c s) m
def around (r c x : Nat) : Nat := orAll r c 0 (mem64 x)

theorem orAll_lt {r c : Nat} (h : Brd r c) : ∀ (l : List Nat) (m : Nat), m < 2 ^ (r * c) → (∀ k, k ∈ l → k < r * c) → orAll r c m l < 2 ^ (r * c)
  | [], m, hm, _ => hm
  | k :: l, m, hm, hl => orAll_lt h l (m ||| mv r c k) (or_lt hm (mv_bound h (hl k (by simp)))) fun k' hk' => hl k' (by simp [hk'])

theorem mem64_in {n x : Nat} (hx : x < 2 ^ n) {k : Nat} (hk : k ∈ mem64 x) : k < n := by
  unfold mem64 at hk
  rw [List.mem_filter] at hk
  apply Classical.byContradiction
  intro hc
  have := Nat.testBit_lt_two_pow (i := k) (Nat.lt_of_lt_of_le hx (Nat.pow_le_pow_right (by decide) (by omega)))
  rw [this] at hk
  cases hk.2

theorem around_lt {r c x : Nat} (h : Brd r c) (hx : x < 2 ^ (r * c)) : around r c x < 2 ^ (r * c) :=
  orAll_lt h _ 0 (Nat.two_pow_pos _) fun k hk => mem64_in hx hk

def masks (r c : Nat) : List TV := (List.range 36).map fun s => .i .u64 (mvTo r c (r * c) s : Int)
theorem masks_len (r c : Nat) : (masks r c).length = 36 := by simp [masks]
theorem masks_at (r c : Nat) {s : Nat} (hs : s < 36) : (masks r c)[s]? = some (.i .u64 (mvTo r c (r * c) s : Int)) := by simp [masks, hs]
theorem part_masks (r c : Nat) : Dn.part 36 true 3 (bM r c) = some (.agg (masks r c)) := by
  have hb : bM r c = .i .i64 (r : Int) :: .i .i64 (c : Int) :: .i .i64 ((r * c : Nat) : Int) :: masks r c := rfl
  have hl := masks_len r c
  have hd : (bM r c).drop 3 = masks r c := by rw [hb]; rfl
  unfold Dn.part
  rw [if_pos rfl, hd, List.take_of_length_le (by omega), if_pos (by rw [hb]; simp [hl])]

theorem k_fadrB {pg : Pg} {R : Rec} (r c : Nat) (bo : Bool) (H : Heap) : dkc pg R (.fadr 3 36 true) [.bp bo (.agg (bM r c))] H = some (.bp bo (.agg (masks r c)), H) := by
  have := part_masks r c
  simp [dkc, dk, this]
theorem k_ixAB {pg : Pg} {R : Rec} (r c : Nat) {s : Nat} (hs : s < 36) (bo : Bool) (k : IntKind) (H : Heap) : dkc pg R (.ixA 36 1 false) [.bp bo (.agg (masks r c)), .i k (s : Int)] H = some (.bp bo (.i .u64 (mvTo r c (r * c) s : Int)), H) := by
  have := part_one (masks_at r c hs) rfl
  simp [dkc, dk, bound, hs, this]
theorem k_nckB {pg : Pg} {R : Rec} (x : TV) (bo : Bool) (H : Heap) : dkc pg R .nilck [.bp bo x] H = some (.bp bo x, H) := rfl
theorem k_boxP {pg : Pg} {R : Rec} (x : TV) (bo : Bool) (H : Heap) : dkc pg R (.box false) [.bp bo x] H = some (.ref H.length 0, H ++ [.cells [.bp bo x] false]) := k_box _ _ rfl

theorem fn71 {pg : Pg} (hF : Free pg) {r c x : Nat} {bo : Bool} (h : Brd r c) (hx : x < 2 ^ (r * c)) :
    PFn pg 71 [.bp bo (.agg (bM r c)), .i .u64 (x : Int)] (.i .u64 (around r c x : Int)) := by
  have hn := h.n36
  have h64 : 2 ^ (r * c) ≤ 18446744073709551616 := by have := Nat.pow_le_pow_right (n := 2) (by decide) (show r * c ≤ 64 by omega); omega
  obtain ⟨BP, hBP⟩ : ∃ BP, BP = TV.bp bo (.agg (bM r c)) := ⟨_, rfl⟩
  obtain ⟨H2, hH2⟩ : ∃ H2 : Heap, H2 = [.cells [BP] false, .cells [.i .u64 0] false] := ⟨_, rfl⟩
  obtain ⟨H3, hH3⟩ : ∃ H3 : Heap, H3 = [.cells [BP] false, .cells [.i .u64 0] false, .cells [.i .u64 (x : Int)] false] := ⟨_, rfl⟩
  have b63 := body63 hF x H2
  have hc3 : H2 ++ [.cells [.i .u64 (x : Int)] false] = H3 := by rw [hH2, hH3]; rfl
  have hl2 : H2.length = 2 := by rw [hH2]; rfl
  have hl3 : H3.length = 3 := by rw [hH3]; rfl
  rw [hc3, hl2] at b63
  obtain ⟨L, hL⟩ : ∃ L, L = lp1 a71_0 b71_1 9 [2, 5] [(2, .ref 0 0), (5, .ref 1 0), (8, .fn 93 [] [.ref 2 0])] := ⟨_, rfl⟩
  obtain ⟨P, hP⟩ : ∃ P : List Nat → Heap → Prop, P = fun l H => H[0]? = some (.cells [BP] false) ∧ ∃ m, H[1]? = some (.cells [.i .u64 (m : Int)] false) ∧ m < 2 ^ (r * c) ∧ (∀ k, k ∈ l → k < r * c) ∧ orAll r c m l = around r c x ∧ 4 ≤ H.length := ⟨_, rfl⟩
  have hinit : P (mem64 x) (H3 ++ [.loop L]) := by
    rw [hP]
    refine ⟨by rw [hH3]; rfl, 0, by rw [hH3]; rfl, Nat.two_pow_pos _, fun k hk => mem64_in hx hk, rfl, by simp [hl3]⟩
  have hset : ∀ l H cc, P l H → P l (H.set 2 cc) := by
    rw [hP]
    rintro l H cc ⟨p1, m, p2, p3, p4, p5, p6⟩
    exact ⟨by rw [List.getElem?_set_ne (by omega)]; exact p1, m, by rw [List.getElem?_set_ne (by omega)]; exact p2, p3, p4, p5, by simpa using p6⟩
  have hR : Rnd pg 3 2 L P (fun _ _ => False) := by
    rw [hP]
    rintro k rest H ⟨p1, m, p2, p3, p4, p5, p6⟩ hlp hk
    have hkr : k < r * c := p4 k (by simp)
    obtain ⟨HB, hHB⟩ : ∃ HB, HB = H.set 3 (.loop { L with st := .busy }) := ⟨_, rfl⟩
    have q1 : HB[0]? = some (.cells [BP] false) := by rw [hHB, List.getElem?_set_ne (by omega)]; exact p1
    have q2 : HB[1]? = some (.cells [.i .u64 (m : Int)] false) := by rw [hHB, List.getElem?_set_ne (by omega)]; exact p2
    have hlB : HB[3]? = some (.loop { L with st := .busy }) := by rw [hHB, List.getElem?_set_self (by omega)]
    have hlenB : HB.length = H.length := by rw [hHB]; simp
    have v1 := ld_box (pg := pg) (R := den pg) q1 (by rw [hBP]; rfl)
    have v2 := ld_box (pg := pg) (R := den pg) q2 rfl
    have v3 := st_box (pg := pg) (R := den pg) q2 (v := .i .u64 ((m ||| mv r c k : Nat) : Int)) rfl
    have hmk : mvTo r c (r * c) k = mv r c k := by unfold mvTo; rw [if_pos hkr]
    have v4 := k_ixAB (pg := pg) (R := den pg) r c (s := k) (by omega) bo .i64 HB
    rw [hmk] at v4
    have v5 := k_fadrB (pg := pg) (R := den pg) r c bo HB
    have v6 := or_uu (m := m) (k := mv r c k) (by omega) (Nat.lt_of_lt_of_le (mv_bound h hkr) h64)
    have ha : den pg a71_0 ((([9] : List Nat).zip [.i .i64 (k : Int)]).reverse ++ [(2, .ref 0 0), (5, .ref 1 0)]) H = some ⟨.normal, [(2, .ref 0 0), (5, .ref 1 0), (6, .i .i64 (k : Int))], H⟩ := by
      rw [den_eq, runC_go]
      simp [a71_0, go_nil, go_last, go_past, go_pastR, go_blkN, go_blkR, go_blkE, go_skip, go_exit, go_ret, go_scope, go_seq, go_reg, go_regd, go_opdN, go_opd, go_opdG, grdd_b, grdd_u, stpd_some, find_some, go_block, go_cond, cnd_b, go_opsN, go_ops, go_opsG, grd_b, grd_u, stp_some, fin_some, up_some, cont_some, k_call, k_mv, k_pick, k_bin, k_eqB, k_eqA, k_not, k_neg, k_conv, k_alloc, k_boxA, k_boxI, k_boxB, k_boxN, k_boxBs, k_ldR, k_ldA, k_ldI, k_ldB, k_stA, k_stI, k_stB, ldC_some, stC_some, k_mkfn, k_slc, k_slcA, k_ixA, k_ixBs, k_ixSl, k_fadr, k_fld, k_ext, k_len, k_app, k_mn, k_mx, k_nilck, k_build, k_bsl1, k_bsl2, b_add, b_sub, b_mul, b_eql, b_neq, b_lss, b_leq, b_gtr, b_geq, Dn.setLast, Dn.getLast, evalO, mapO, Dn.get, putE, keepE, TV.one, TV.isAgg, Dn.part]
    have hb : den pg b71_1 [(2, .ref 0 0), (5, .ref 1 0), (6, .i .i64 (k : Int))] HB = some ⟨.normal, [], HB.set 1 (.cells [.i .u64 ((m ||| mv r c k : Nat) : Int)] false)⟩ := by
      rw [den_eq, runC_go]
      rw [← hBP] at v5
      have v7 : dkc pg (den pg) .nilck [BP] HB = some (BP, HB) := by rw [hBP]; rfl
      generalize masks r c = MM at *
      generalize mv r c k = VV at *
      simp [b71_1, go_nil, go_last, go_past, go_pastR, go_blkN, go_blkR, go_blkE, go_skip, go_exit, go_ret, go_scope, go_seq, go_reg, go_regd, go_opdN, go_opd, go_opdG, grdd_b, grdd_u, stpd_some, find_some, go_block, go_cond, cnd_b, go_opsN, go_ops, go_opsG, grd_b, grd_u, stp_some, fin_some, up_some, cont_some, k_call, k_mv, k_pick, k_bin, k_eqB, k_eqA, k_not, k_neg, k_conv, k_alloc, k_boxA, k_boxI, k_boxB, k_boxN, k_boxBs, k_ldR, k_ldA, k_ldI, k_ldB, k_stA, k_stI, k_stB, ldC_some, stC_some, k_mkfn, k_slc, k_slcA, k_ixA, k_ixBs, k_ixSl, k_fadr, k_fld, k_ext, k_len, k_app, k_mn, k_mx, k_nilck, k_build, k_bsl1, k_bsl2, b_add, b_sub, b_mul, b_eql, b_neq, b_lss, b_leq, b_gtr, b_geq, Dn.setLast, Dn.getLast, evalO, mapO, Dn.get, putE, keepE, TV.one, TV.isAgg, Dn.part, v1, v2, v3, v4, v5, v6, v7]
    refine .inl ⟨(HB.set 1 (.cells [.i .u64 ((m ||| mv r c k : Nat) : Int)] false)).set 3 (.loop L), Body.of (e1 := [(2, .ref 0 0), (5, .ref 1 0), (6, .i .i64 (k : Int))]) (e2 := []) (by rw [hL]; exact ha) hlp (by rw [← hHB, hL]; exact hb) (by rw [List.getElem?_set_ne (by omega)]; exact hlB),
      ⟨by rw [List.getElem?_set_ne (by omega), List.getElem?_set_ne (by omega)]; exact q1, m ||| mv r c k, by rw [List.getElem?_set_ne (by omega), List.getElem?_set_self (by omega)], or_lt p3 (mv_bound h hkr), fun k' hk' => p4 k' (by simp [hk']), p5, by simp [hlenB]; exact p6⟩, ?_⟩
    rw [List.getElem?_set_ne (by omega), List.getElem?_set_ne (by omega), hHB, List.getElem?_set_ne (by omega)]
  have hd : pg.F 71 = some d71 := by rw [hF.F]; rfl
  rcases rng hF (f := 8) (s := 2) (p := 9) (as_ := a71_0) (bd := b71_1) (ks := [2, 5]) (e := [(2, .ref 0 0), (5, .ref 1 0), (8, .fn 93 [] [.ref 2 0])]) (H := H3) rfl (by rw [hH3]; rfl) (by omega)
      (P := P) (Q := fun _ _ => False) (by rw [← hL]; exact hinit) hset (by rw [hl3, ← hL]; exact hR) with ⟨H4, r1, r2⟩ | ⟨_, _, _, _, hf⟩
  · rw [hl3, ← hL] at r1
    rw [hP] at r2
    obtain ⟨p1, m, p2, p3, p4, p5, p6⟩ := r2
    have p5' : m = around r c x := p5
    rw [p5'] at p2
    have hk : keepE [2, 5] ([(2, .ref 0 0), (5, .ref 1 0), (8, .fn 93 [] [.ref 2 0])] : Env) = [(2, .ref 0 0), (5, .ref 1 0)] := rfl
    rw [hk] at r1
    obtain ⟨H5, hH5⟩ : ∃ H5, H5 = H4.set 3 (.loop { L with st := .exhausted }) := ⟨_, rfl⟩
    rw [← hH5] at r1
    have g1 : H5[1]? = some (.cells [.i .u64 (around r c x : Int)] false) := by rw [hH5, List.getElem?_set_ne (by omega)]; exact p2
    have v1 := ld_box (pg := pg) (R := den pg) g1 rfl
    have kb : dkc pg (den pg) (.box false) [BP] [] = some (.ref 0 0, [.cells [BP] false]) := by rw [hBP]; exact k_boxP _ _ _
    have s0 : stC H2[1]? 1 1 0 [.i .u64 0] H2 = some (.undef, H2) := by rw [hH2]; rfl
    rw [← hBP]
    refine .of1 (x := .ret) (e := [(4, .i .u64 (around r c x : Int))]) (H' := H5) (hF.S _ _ (by decide)) hd rfl ?_ (.inl rfl) rfl (by simp [sn_i, sn_b, sn_nil, sn8_i, sn8_b, sn8_nil, sn7_i, sn7_b, sn_sl, sn8_sl, slB_some, sn_tup, sn_agg, sn8_agg, mapO, elems])
    generalize (around r c x : Int) = AA at *
    simp [d71, c71, zipE, go_nil, go_last, go_past, go_pastR, go_blkN, go_blkR, go_blkE, go_skip, go_exit, go_ret, go_scope, go_seq, go_reg, go_regd, go_opdN, go_opd, go_opdG, grdd_b, grdd_u, stpd_some, find_some, go_block, go_cond, cnd_b, go_opsN, go_ops, go_opsG, grd_b, grd_u, stp_some, fin_some, up_some, cont_some, k_call, k_mv, k_pick, k_bin, k_eqB, k_eqA, k_not, k_neg, k_conv, k_alloc, k_boxA, k_boxI, k_boxB, k_boxN, k_boxBs, k_ldR, k_ldA, k_ldI, k_ldB, k_stA, k_stI, k_stB, ldC_some, stC_some, k_mkfn, k_slc, k_slcA, k_ixA, k_ixBs, k_ixSl, k_fadr, k_fld, k_ext, k_len, k_app, k_mn, k_mx, k_nilck, k_build, k_bsl1, k_bsl2, b_add, b_sub, b_mul, b_eql, b_neq, b_lss, b_leq, b_gtr, b_geq, Dn.setLast, Dn.getLast, evalO, mapO, Dn.get, putE, keepE, TV.one, TV.isAgg, Dn.part, kb, sh_fn, ← hH2, s0, b63, r1, v1]
  · exact hf.elim

end Go.Proofs.Tryd.Dn

/-
  Knight: a range over the levels around a square.
-/

namespace Go.Proofs.Tryd.Dn
open Go.Dn

def lv (r c a : Nat) : Nat → Nat × Nat
  | 0 => (0, 2 ^ a)
  | n + 1 => ((lv r c a n).1 ||| (lv r c a n).2, andN (around r c (lv r c a n).2) ((lv r c a n).1 ||| (lv r c a n).2))

theorem mapO_self {α : Type} {f : α → Option α} : ∀ {l : List α}, (∀ x, x ∈ l → f x = some x) → mapO f l = some l
  | [], _ => rfl
  | x :: l, h => by rw [mapO, h x (List.mem_cons_self ..), Option.bind_some, mapO_self fun y hy => h y (List.mem_cons_of_mem _ hy)]; rfl

theorem bM_int {r c : Nat} {x : TV} (hx : x ∈ bM r c) : ∃ k n, x = .i k n := by
  unfold bM bC at hx
  simp only [List.mem_cons, List.mem_map] at hx
  rcases hx with rfl | rfl | rfl | ⟨s, _, rfl⟩ <;> exact ⟨_, _, rfl⟩

theorem snap_bM (m : SM) (H : Heap) (r c : Nat) : snap m H 8 (.agg (bM r c)) = some (.agg (bM r c)) := by
  rw [sn8_agg, mapO_self fun x hx => by obtain ⟨k, n, rfl⟩ := bM_int hx; exact sn7_i _ _ _ _]
  rfl

theorem snap_bp (bo : Bool) (H : Heap) (r c : Nat) : snap .borrow H 9 (.bp bo (.agg (bM r c))) = some (.bp true (.agg (bM r c))) := by
  have := snap_bM .borrow H r c
  rw [snap]
  simp [this, SM.flag]

theorem call71 {pg : Pg} (hF : Free pg) {r c x : Nat} {bo : Bool} (h : Brd r c) (hx : x < 2 ^ (r * c)) (H : Heap) :
    callRun pg (den pg) (.pu []) [.fn 71 [] [], .bp bo (.agg (bM r c)), .i .u64 (x : Int)] H = some (.i .u64 (around r c x : Int), H) := by
  have := snap_bp bo H r c
  exact PFn.call (fn71 hF (bo := true) h hx) (args := [.bp bo (.agg (bM r c)), .i .u64 (x : Int)]) (by simp [snapArgs, sn_i, this])

end Go.Proofs.Tryd.Dn

/-
  Knight: a range over the levels, as code meets it.
-/

namespace Go.Proofs.Tryd.Dn
open Go.Dn

end Go.Proofs.Tryd.Dn

