/-
  Knight: the way, backwards through the levels.
-/
import Derived.Test.YtdjbpmgbaggfbaaDoorKf2
import Derived.Test.YtdjbpmgbaggfbaaDoorKf3
set_option linter.unusedSimpArgs false
set_option linter.unusedVariables false

namespace Go.Proofs.Tryd.Dn
open Go.Dn

theorem ctz_bit {x : Nat} (h0 : 0 < x) (h : x < 18446744073709551616) : x.testBit (ctz 64 x) = true := by
  obtain ⟨m, h1, h2⟩ := ctz_spec 64 x h0 (by omega)
  generalize ctz 64 x = k at *
  rw [h1, bit_mul, Nat.sub_self, Nat.testBit_zero]
  simp

/-- the step back from a square of the next level -/
def back (r c a k x : Nat) : Nat := ctz 64 (front r c a k &&& mv r c x)

theorem front_lt {r c a : Nat} (h : Brd r c) (ha : a < r * c) (k : Nat) : front r c a k < 2 ^ (r * c) := (lv_lt h ha k).2

theorem meet_pos {r c a k x : Nat} (h : Brd r c) (ha : a < r * c) (hx : x < r * c) (hb : (front r c a (k + 1)).testBit x = true) : 0 < front r c a k &&& mv r c x := by
  obtain ⟨⟨s, h1, h2, h3⟩, _⟩ := (front_succ h ha hx k).1 hb
  apply Nat.pos_of_ne_zero
  intro h0
  have := congrArg (fun w => w.testBit s) h0
  simp only [Nat.testBit_and, Nat.zero_testBit] at this
  rw [h1, mv_near h hx h2, near_comm, h3] at this
  cases this

theorem back_in {r c a k x : Nat} (h : Brd r c) (ha : a < r * c) (hx : x < r * c) (hb : (front r c a (k + 1)).testBit x = true) : (front r c a k).testBit (back r c a k x) = true ∧ back r c a k x < r * c := by
  have h64 := lv64 h
  have hp := meet_pos h ha hx hb
  have hfl := front_lt h ha k
  have hle : front r c a k &&& mv r c x ≤ front r c a k := Nat.and_le_left
  have h1 := ctz_bit hp (by omega)
  rw [Nat.testBit_and, Bool.and_eq_true] at h1
  refine ⟨h1.1, ?_⟩
  apply Classical.byContradiction
  intro hc
  have := Nat.testBit_lt_two_pow (i := ctz 64 (front r c a k &&& mv r c x)) (Nat.lt_of_lt_of_le hfl (Nat.pow_le_pow_right (by decide) (Nat.le_of_not_lt hc)))
  rw [this] at h1
  cases h1.1

/-- the way: an own list, or the literal that it begins as -/
def Wy (H : Heap) (t : TV) (l : List Int) : Prop := elI.Own H t l ∨ ∃ id v, t = .sl id 0 1 false 1 (some 1) ∧ l = [v] ∧ H[id]? = some (.cells [.i .i64 v] false)

theorem Wy.mono {H H' : Heap} {t : TV} {l : List Int} (h : Wy H t l) (hf : ∀ id, t.idOf = some id → H'[id]? = H[id]?) : Wy H' t l := by
  rcases h with h | ⟨id, v, rfl, rfl, h⟩
  · exact .inl (h.mono hf)
  · exact .inr ⟨id, v, rfl, rfl, by rw [hf id rfl]; exact h⟩

theorem Wy.lt {H : Heap} {t : TV} {l : List Int} (h : Wy H t l) : ∀ id, t.idOf = some id → id < H.length := by
  rcases h with h | ⟨id, v, rfl, rfl, h⟩
  · exact h.lt
  · intro id' hid
    have : id = id' := Option.some.inj hid
    subst this
    exact (List.getElem?_eq_some_iff.1 h).1

theorem Wy.app {H : Heap} {t : TV} {l : List Int} {w : Int} (h : Wy (H ++ [AObj.cells [.i .i64 w] false]) t l) (hb : l.length + 1 ≤ 1000000) :
    ∃ t' H', appRun 1 false 8 t (.sl H.length 0 1 false 1 (some 1)) (H ++ [AObj.cells [.i .i64 w] false]) = some (t', H') ∧ Wy H' t' (l ++ [w]) ∧ (H ++ [AObj.cells [.i .i64 w] false]).length ≤ H'.length ∧ (∀ j, j < (H ++ [AObj.cells [.i .i64 w] false]).length → t.idOf ≠ some j → H'[j]? = (H ++ [AObj.cells [.i .i64 w] false])[j]?) ∧ (t' = t ∨ ∀ id, t'.idOf = some id → (H ++ [AObj.cells [.i .i64 w] false]).length ≤ id) := by
  rcases h with h | ⟨id, v, rfl, rfl, h⟩
  · obtain ⟨t', H', h1, h2, h3, h4, h5⟩ := appI h (one_view H w) (by simpa using hb)
    exact ⟨t', H', h1, .inl h2, h3, h4, h5⟩
  · obtain ⟨H1, hH1⟩ : ∃ H1, H1 = H ++ [AObj.cells [.i .i64 w] false] := ⟨_, rfl⟩
    have g : H1[H.length]? = some (.cells [.i .i64 w] false) := by rw [hH1]; exact getLast _ _
    have hle : H.length ≤ H1.length := by rw [hH1]; simp
    rw [← hH1] at h ⊢
    refine ⟨.sl H1.length 0 1 false 2 none, H1 ++ [.cells [.i .i64 v, .i .i64 w] false], ?_, .inl (.inr ⟨by simp, H1.length, false, [.i .i64 v, .i .i64 w], rfl, getLast _ _, by simp [elI], by simp [elI, El.flat]⟩), (by first | (simp; done) | (simp; omega)), fun j hj _ => List.getElem?_append_left hj, .inr fun id' hid => by have : H1.length = id' := Option.some.inj hid; omega⟩
    simp [appRun, lenOf, flatOf, g, h, TV.one]

/-- what is known on the way back -/
structure Bk (r c a m x : Nat) (R W : TV) (ws : List Int) (H : Heap) : Prop where
  goal : H[0]? = some (.cells [.i .i64 (x : Int)] false)
  list : H[1]? = some (.cells [R] false)
  ne : R.isAgg = false
  lev : elU.View H R (fronts r c a (m + 1))
  rid : ∀ id, R.idOf = some id → 1 < id ∧ id < H.length
  way : Wy H W ws
  wid : ∀ id, W.idOf = some id → 1 < id ∧ R.idOf ≠ some id

theorem bk_round {pg : Pg} (hF : Free pg) {r c a m x k : Nat} {bo : Bool} {R W : TV} {ws : List Int} {H : Heap} (h : Brd r c) (ha : a < r * c) (hx : x < r * c) (hk : k ≤ m) (hb : (front r c a (k + 1)).testBit x = true) (hB : Bk r c a m x R W ws H) (hw : ws.length ≤ 1000) (hm : m ≤ 1000) :
    ∃ W' H', den pg l65_3 [(0, .bp bo (.agg (bM r c))), (5, .ref 0 0), (7, .ref 1 0), (11, W), (12, .i .i64 (k : Int))] H = den pg l65_3 [(0, .bp bo (.agg (bM r c))), (5, .ref 0 0), (7, .ref 1 0), (11, W'), (12, .i .i64 ((k : Int) - 1))] H' ∧
      Bk r c a m (back r c a k x) R W' (ws ++ [(back r c a k x : Int)]) H' := by
  have hn := h.n36
  have h64 := lv64 h
  have hfl := front_lt h ha k
  have hmv := mv_bound h hx
  have hle : front r c a k &&& mv r c x ≤ front r c a k := Nat.and_le_left
  have l0 := ld_box (pg := pg) (R := den pg) hB.goal rfl
  have l1 := ld_box (pg := pg) (R := den pg) hB.list hB.ne
  obtain ⟨z, z1, z2, _⟩ := hB.lev.ix (pg := pg) (R := den pg) (i := k) (x := front r c a k) (by unfold fronts; rw [List.getElem?_map, List.getElem?_range (by omega)]; rfl) .i64
  have z1' : dkc pg (den pg) (.ixS 1 false) [R, .i .i64 (k : Int)] H = some (z, H) := z1
  have z3' : dkc pg (den pg) (.ld 1 false) [z] H = some (.i .u64 (front r c a k : Int), H) := z2.ld
  have v4 := k_ixAB (pg := pg) (R := den pg) r c (s := x) (by omega) bo .i64 H
  rw [show mvTo r c (r * c) x = mv r c x by unfold mvTo; rw [if_pos hx]] at v4
  have v5 := k_fadrB (pg := pg) (R := den pg) r c bo H
  have an := and_uu (m := front r c a k) (k := mv r c x) (by omega) (by omega)
  have c84 := call84 hF (meet_pos h ha hx hb) (by omega) H
  have hbk : ctz 64 (front r c a k &&& mv r c x) = back r c a k x := rfl
  rw [hbk] at c84
  have st0 := st_box (pg := pg) (R := den pg) (v := .i .i64 (back r c a k x : Int)) hB.goal rfl
  obtain ⟨H1, hH1⟩ : ∃ H1, H1 = H.set 0 (.cells [.i .i64 (back r c a k x : Int)] false) := ⟨_, rfl⟩
  rw [← hH1] at st0
  have hl1 := (List.getElem?_eq_some_iff.1 hB.list).1
  have len1 : H1.length = H.length := by rw [hH1]; simp
  have g0 : H1[0]? = some (.cells [.i .i64 (back r c a k x : Int)] false) := by rw [hH1, List.getElem?_set_self (by omega)]
  have kp : ∀ j, 0 < j → H1[j]? = H[j]? := fun j hj => by rw [hH1, List.getElem?_set_ne (by omega)]
  have l0' := ld_box (pg := pg) (R := den pg) g0 rfl
  have hown : Wy H1 W ws := hB.way.mono fun id hid => kp id (by have := (hB.wid id hid).1; omega)
  obtain ⟨W', H2, a1, a2, a3, a4, a5⟩ := (hown.mono (H' := H1 ++ [.cells [.i .i64 (back r c a k x : Int)] false]) fun id hid => by rw [List.getElem?_append_left (hown.lt id hid)]).app (by omega)
  have w1 : wrapR .i64 ((k : Int) - 1) = .i .i64 ((k : Int) - 1) := wrapR_i64 (by omega)
  have e1 : (0 : Int) ≤ (k : Int) := by omega
  have keep : ∀ j, j < H.length → 0 < j → W.idOf ≠ some j → H2[j]? = H[j]? := fun j hj h0 hne => by
    rw [a4 j (by rw [List.length_append, len1]; simp; omega) hne, List.getElem?_append_left (by rw [len1]; exact hj), kp j h0]
  have len2 : H.length + 1 ≤ H2.length := by simpa [len1] using a3
  refine ⟨W', H2, ?_, ⟨?_, ?_, hB.ne, ?_, fun id hid => ⟨(hB.rid id hid).1, by have := (hB.rid id hid).2; omega⟩, a2, fun id hid => ?_⟩⟩
  · have hnk : dkc pg (den pg) .nilck [.bp bo (.agg (bM r c))] H = some (.bp bo (.agg (bM r c)), H) := rfl
    generalize TV.agg (bM r c) = BM at *
    generalize masks r c = MM at *
    generalize (front r c a k &&& mv r c x) = AA at *
    generalize (front r c a k : Int) = FF at *
    generalize (mv r c x : Int) = VV at *
    generalize (back r c a k x : Int) = QQ at *
    rw [l65_3, den_loop]
    simp [l65_3, b65_2, go_nil, go_last, go_past, go_pastR, go_blkN, go_blkR, go_blkE, go_skip, go_exit, go_ret, go_scope, go_seq, go_reg, go_regd, go_opdN, go_opd, go_opdG, grdd_b, grdd_u, stpd_some, find_some, go_block, go_cond, cnd_b, go_opsN, go_ops, go_opsG, grd_b, grd_u, stp_some, fin_some, up_some, cont_some, k_call, k_mv, k_pick, k_bin, k_eqB, k_eqA, k_not, k_neg, k_conv, k_alloc, k_boxA, k_boxI, k_boxB, k_boxN, k_boxBs, k_ldR, k_ldA, k_ldI, k_ldB, k_stA, k_stI, k_stB, ldC_some, stC_some, k_mkfn, k_slc, k_slcA, k_ixA, k_ixBs, k_ixSl, k_fadr, k_fld, k_ext, k_len, k_app, k_mn, k_mx, k_nilck, k_build, k_bsl1, k_bsl2, b_add, b_sub, b_mul, b_eql, b_neq, b_lss, b_leq, b_gtr, b_geq, Dn.setLast, Dn.getLast, evalO, mapO, Dn.get, putE, keepE, TV.one, TV.isAgg, Dn.part, e1, l0, l1, z1', z3', v4, v5, hnk, an, c84, st0, l0', a1, w1]
  · rw [a4 0 (by rw [List.length_append, len1]; simp) (fun he => by have := (hB.wid 0 he).1; omega), List.getElem?_append_left (by omega), g0]
  · rw [keep 1 hl1 (by omega) (fun he => by have := (hB.wid 1 he).1; omega)]; exact hB.list
  · exact hB.lev.mono fun id hid => keep id (hB.rid id hid).2 (by have := (hB.rid id hid).1; omega) fun he => (hB.wid id he).2 hid
  · rcases a5 with rfl | a5
    · exact hB.wid id hid
    · have := a5 id hid
      simp [len1] at this
      exact ⟨by omega, fun hr => by have := (hB.rid id hr).2; omega⟩

end Go.Proofs.Tryd.Dn

/-
  Knight: the way, all levels back.
-/

namespace Go.Proofs.Tryd.Dn
open Go.Dn

/-- the squares on the way back from a square of level k -/
def backs (r c a : Nat) : Nat → Nat → List Int
  | 0, _ => []
  | k + 1, x => (back r c a k x : Int) :: backs r c a k (back r c a k x)

theorem backs_len (r c a : Nat) : ∀ k x, (backs r c a k x).length = k
  | 0, _ => rfl
  | k + 1, x => by rw [backs, List.length_cons, backs_len r c a k]

theorem l65_3_all {pg : Pg} (hF : Free pg) {r c a m : Nat} {bo : Bool} {R : TV} (h : Brd r c) (ha : a < r * c) (hm : m ≤ 900) : ∀ (k x : Nat) (W : TV) (ws : List Int) (H : Heap), k ≤ m → x < r * c → (front r c a k).testBit x = true → ws.length + k ≤ 1000 → Bk r c a m x R W ws H →
    ∃ e W' H' x', den pg l65_3 [(0, .bp bo (.agg (bM r c))), (5, .ref 0 0), (7, .ref 1 0), (11, W), (12, .i .i64 ((k : Int) - 1))] H = some ⟨.exit 2, e, H'⟩ ∧ Dn.get e 11 = some W' ∧ Bk r c a m x' R W' (ws ++ backs r c a k x) H'
  | 0, x, W, ws, H, hk, hx, hb, hw, hB => by
    refine ⟨[(0, .bp bo (.agg (bM r c))), (5, .ref 0 0), (7, .ref 1 0), (11, W), (12, .i .i64 (-1)), (36, .b false)], W, H, x, ?_, rfl, by rw [backs, List.append_nil]; exact hB⟩
    rw [l65_3, den_loop]
    simp [b65_2, go_nil, go_last, go_past, go_pastR, go_blkN, go_blkR, go_blkE, go_skip, go_exit, go_ret, go_scope, go_seq, go_reg, go_regd, go_opdN, go_opd, go_opdG, grdd_b, grdd_u, stpd_some, find_some, go_block, go_cond, cnd_b, go_opsN, go_ops, go_opsG, grd_b, grd_u, stp_some, fin_some, up_some, cont_some, k_call, k_mv, k_pick, k_bin, k_eqB, k_eqA, k_not, k_neg, k_conv, k_alloc, k_boxA, k_boxI, k_boxB, k_boxN, k_boxBs, k_ldR, k_ldA, k_ldI, k_ldB, k_stA, k_stI, k_stB, ldC_some, stC_some, k_mkfn, k_slc, k_slcA, k_ixA, k_ixBs, k_ixSl, k_fadr, k_fld, k_ext, k_len, k_app, k_mn, k_mx, k_nilck, k_build, k_bsl1, k_bsl2, b_add, b_sub, b_mul, b_eql, b_neq, b_lss, b_leq, b_gtr, b_geq, Dn.setLast, Dn.getLast, evalO, mapO, Dn.get, putE, keepE, TV.one, TV.isAgg, Dn.part]
  | k + 1, x, W, ws, H, hk, hx, hb, hw, hB => by
    obtain ⟨W1, H1, r1, r2⟩ := bk_round hF (bo := bo) h ha hx (k := k) (by omega) hb hB (by omega) (by omega)
    obtain ⟨b1, b2⟩ := back_in h ha hx hb
    obtain ⟨e, W', H', x', k1, k2, k3⟩ := l65_3_all hF (bo := bo) h ha hm k (back r c a k x) W1 _ H1 (by omega) b2 b1 (by simp; omega) r2
    refine ⟨e, W', H', x', ?_, k2, by rw [List.append_assoc] at k3; exact k3⟩
    rw [show ((k + 1 : Nat) : Int) - 1 = (k : Int) by omega, r1]
    exact k1

end Go.Proofs.Tryd.Dn

/-
  Knight: a slice turned round in place.
-/

namespace Go.Proofs.Tryd.Dn
open Go.Dn

theorem ownAt {pg : Pg} {R : Rec} {H : Heap} {t : TV} {l : List Int} (h : elI.Own H t l) {i : Nat} {x : Int} (hx : l[i]? = some x) :
    ∃ p, dkc pg R (.ixS 1 false) [t, .i .i64 (i : Int)] H = some (p, H) ∧ dkc pg R (.ld 1 false) [p] H = some (.i .i64 x, H) ∧
      ∀ v : Int, ∃ H', dkc pg R (.st 1) [p, .i .i64 v] H = some (.undef, H') ∧ elI.Own H' t (l.set i v) ∧ H'.length = H.length ∧ ∀ j, t.idOf ≠ some j → H'[j]? = H[j]? := by
  obtain ⟨p, h1, h2⟩ := ixI (pg := pg) (R := R) h.view hx
  refine ⟨p, h1, h2, fun v => ?_⟩
  obtain ⟨p', H', h3, a1, a2, a3, a4⟩ := ownSet (pg := pg) (R := R) h (List.getElem?_eq_some_iff.1 hx).1 v
  rw [h1] at h3
  simp only [Option.some.injEq, Prod.mk.injEq, and_true] at h3
  subst h3
  exact ⟨H', a1, a2, a3, a4⟩

def swapTo (l : List Int) (i : Nat) : List Int := (List.range l.length).map fun j => if j < i ∨ l.length ≤ j + i then l.getD (l.length - 1 - j) 0 else l.getD j 0

theorem swapTo_len (l : List Int) (i : Nat) : (swapTo l i).length = l.length := by simp [swapTo]
theorem swapTo_get {l : List Int} {i j : Nat} (hj : j < l.length) : (swapTo l i)[j]? = some (if j < i ∨ l.length ≤ j + i then l.getD (l.length - 1 - j) 0 else l.getD j 0) := by
  unfold swapTo
  rw [List.getElem?_map, List.getElem?_range hj]; rfl
theorem swapTo_0 (l : List Int) : swapTo l 0 = l := by
  apply List.ext_getElem?
  intro j
  by_cases hj : j < l.length
  · rw [swapTo_get hj, if_neg (by omega), List.getElem?_eq_getElem hj, List.getD, List.getElem?_eq_getElem hj]; rfl
  · rw [List.getElem?_eq_none (by rw [swapTo_len]; omega), List.getElem?_eq_none (by omega)]
theorem swapTo_end {l : List Int} {i : Nat} (h : l.length ≤ i + i + 1) : swapTo l i = l.reverse := by
  apply List.ext_getElem?
  intro j
  by_cases hj : j < l.length
  · rw [swapTo_get hj, List.getElem?_reverse hj, List.getElem?_eq_getElem (by omega)]
    congr 1
    have hd : ∀ k (hk : k < l.length), l.getD k 0 = l[k] := fun k hk => by rw [List.getD, List.getElem?_eq_getElem hk]; rfl
    by_cases hc : j < i ∨ l.length ≤ j + i
    · rw [if_pos hc, hd _ (by omega)]
    · rw [if_neg hc, hd _ hj]
      have : j = l.length - 1 - j := by omega
      congr 1
  · rw [List.getElem?_eq_none (by rw [swapTo_len]; omega), List.getElem?_eq_none (by simp; omega)]
theorem swapTo_step {l : List Int} {i : Nat} (h : i + i + 1 < l.length) : ((swapTo l i).set i (l.getD (l.length - 1 - i) 0)).set (l.length - 1 - i) (l.getD i 0) = swapTo l (i + 1) := by
  apply List.ext_getElem?
  intro j
  by_cases hj : j < l.length
  · rw [swapTo_get hj]
    by_cases h1 : j = l.length - 1 - i
    · subst h1
      rw [List.getElem?_set_self (by rw [List.length_set, swapTo_len]; omega), if_pos (by omega)]
      congr 2
      omega
    · rw [List.getElem?_set_ne (by omega)]
      by_cases h2 : j = i
      · subst h2
        rw [List.getElem?_set_self (by rw [swapTo_len]; omega), if_pos (by omega)]
      · rw [List.getElem?_set_ne (by omega), swapTo_get hj]
        congr 1
        by_cases hc : j < i ∨ l.length ≤ j + i
        · rw [if_pos hc, if_pos (by omega)]
        · rw [if_neg hc, if_neg (by omega)]
  · rw [List.getElem?_eq_none (by rw [List.length_set, List.length_set, swapTo_len]; omega), List.getElem?_eq_none (by rw [swapTo_len]; omega)]

theorem l80_all {pg : Pg} {t : TV} {l : List Int} (hl : l.length ≤ 1000000) : ∀ (d i : Nat) (H : Heap), i + d = l.length / 2 → elI.Own H t (swapTo l i) →
    ∃ e H', den pg l80_1 [(0, t), (2, .i .i64 (i : Int)), (3, .i .i64 ((l.length : Int) - 1 - (i : Int)))] H = some ⟨.exit 0, e, H'⟩ ∧ elI.Own H' t l.reverse ∧ H'.length = H.length ∧ ∀ j, t.idOf ≠ some j → H'[j]? = H[j]?
  | 0, i, H, h, hq => by
    have e1 : ¬ ((i : Int) < (l.length : Int) - 1 - (i : Int)) := by omega
    rw [swapTo_end (by omega)] at hq
    refine ⟨[(0, t), (2, .i .i64 (i : Int)), (3, .i .i64 ((l.length : Int) - 1 - (i : Int))), (9, .b false)], H, ?_, hq, rfl, fun _ _ => rfl⟩
    rw [l80_1, den_loop]
    simp [b80_0, go_nil, go_last, go_past, go_pastR, go_blkN, go_blkR, go_blkE, go_skip, go_exit, go_ret, go_scope, go_seq, go_reg, go_regd, go_opdN, go_opd, go_opdG, grdd_b, grdd_u, stpd_some, find_some, go_block, go_cond, cnd_b, go_opsN, go_ops, go_opsG, grd_b, grd_u, stp_some, fin_some, up_some, cont_some, k_call, k_mv, k_pick, k_bin, k_eqB, k_eqA, k_not, k_neg, k_conv, k_alloc, k_boxA, k_boxI, k_boxB, k_boxN, k_boxBs, k_ldR, k_ldA, k_ldI, k_ldB, k_stA, k_stI, k_stB, ldC_some, stC_some, k_mkfn, k_slc, k_slcA, k_ixA, k_ixBs, k_ixSl, k_fadr, k_fld, k_ext, k_len, k_app, k_mn, k_mx, k_nilck, k_build, k_bsl1, k_bsl2, b_add, b_sub, b_mul, b_eql, b_neq, b_lss, b_leq, b_gtr, b_geq, Dn.setLast, Dn.getLast, evalO, mapO, Dn.get, putE, keepE, TV.one, TV.isAgg, Dn.part, e1]
  | d + 1, i, H, h, hq => by
    have hii : i + i + 1 < l.length := by omega
    have e1 : ((i : Int) < (l.length : Int) - 1 - (i : Int)) := by omega
    have hj : ((l.length : Int) - 1 - (i : Int)) = ((l.length - 1 - i : Nat) : Int) := by omega
    have e2 : wrapR .i64 ((i : Int) + 1) = .i .i64 ((i : Int) + 1) := wrapR_i64 (by omega)
    have e3 : wrapR .i64 (((l.length - 1 - i : Nat) : Int) - 1) = .i .i64 ((l.length : Int) - 1 - ((i + 1 : Nat) : Int)) := by
      rw [show (((l.length - 1 - i : Nat) : Int) - 1) = (l.length : Int) - 1 - ((i + 1 : Nat) : Int) by omega]; exact wrapR_i64 (by omega)
    have hgi : (swapTo l i)[i]? = some (l.getD i 0) := by rw [swapTo_get (by omega), if_neg (by omega)]
    have hgj : (swapTo l i)[l.length - 1 - i]? = some (l.getD (l.length - 1 - i) 0) := by rw [swapTo_get (by omega), if_neg (by omega)]
    obtain ⟨pi, a1, a2, a3⟩ := ownAt (pg := pg) (R := den pg) hq hgi
    obtain ⟨pj, b1, b2, _⟩ := ownAt (pg := pg) (R := den pg) hq hgj
    obtain ⟨H1, s1, q1, l1, f1⟩ := a3 (l.getD (l.length - 1 - i) 0)
    obtain ⟨pj', c1, _, c3⟩ := ownAt (pg := pg) (R := den pg) q1 (i := l.length - 1 - i) (x := l.getD (l.length - 1 - i) 0) (by rw [List.getElem?_set_ne (by omega)]; exact hgj)
    obtain ⟨H2, s2, q2, l2, f2⟩ := c3 (l.getD i 0)
    rw [swapTo_step hii] at q2
    obtain ⟨e, H3, h3, q3, l3, f3⟩ := l80_all (pg := pg) hl d (i + 1) H2 (by omega) q2
    refine ⟨e, H3, Eq.trans ?_ h3, q3, by omega, fun j hj => by rw [f3 j hj, f2 j hj, f1 j hj]⟩
    rw [hj] at e1 ⊢
    generalize l.getD (l.length - 1 - i) 0 = vj at *
    generalize l.getD i 0 = vi at *
    generalize ((l.length - 1 - i : Nat) : Int) = jj at *
    generalize (l.length : Int) - 1 - ((i + 1 : Nat) : Int) = jn at *
    rw [l80_1, den_loop]
    simp [l80_1, b80_0, go_nil, go_last, go_past, go_pastR, go_blkN, go_blkR, go_blkE, go_skip, go_exit, go_ret, go_scope, go_seq, go_reg, go_regd, go_opdN, go_opd, go_opdG, grdd_b, grdd_u, stpd_some, find_some, go_block, go_cond, cnd_b, go_opsN, go_ops, go_opsG, grd_b, grd_u, stp_some, fin_some, up_some, cont_some, k_call, k_mv, k_pick, k_bin, k_eqB, k_eqA, k_not, k_neg, k_conv, k_alloc, k_boxA, k_boxI, k_boxB, k_boxN, k_boxBs, k_ldR, k_ldA, k_ldI, k_ldB, k_stA, k_stI, k_stB, ldC_some, stC_some, k_mkfn, k_slc, k_slcA, k_ixA, k_ixBs, k_ixSl, k_fadr, k_fld, k_ext, k_len, k_app, k_mn, k_mx, k_nilck, k_build, k_bsl1, k_bsl2, b_add, b_sub, b_mul, b_eql, b_neq, b_lss, b_leq, b_gtr, b_geq, Dn.setLast, Dn.getLast, evalO, mapO, Dn.get, putE, keepE, TV.one, TV.isAgg, Dn.part, e1, e2, e3, a1, a2, b1, b2, s1, c1, s2]

end Go.Proofs.Tryd.Dn

/-
  Knight: a shortest way.
-/

namespace Go.Proofs.Tryd.Dn
open Go.Dn

theorem body80w {pg : Pg} (hF : Free pg) {t : TV} {l : List Int} {H : Heap} (hq : Wy H t l) (hl : l.length ≤ 1000000) : ∃ H', bodyRun pg (den pg) 80 [t] H = some (.tup [], H') ∧ snap .fin H' 9 t = some (elI.lt false l.reverse) := by
  rcases hq with hq | ⟨id, v, rfl, rfl, hid⟩
  · have hlen := hq.view.lenK
    have e2 : wrapR .i64 ((l.length : Int) - 1) = .i .i64 ((l.length : Int) - 1) := wrapR_i64 (by omega)
    obtain ⟨e, H', h1, h2, h3, h4⟩ := l80_all (pg := pg) (t := t) hl (l.length / 2) 0 H (by omega) (by rw [swapTo_0]; exact hq)
    simp only [Int.natCast_zero, Int.sub_zero] at h1
    refine ⟨H', body_ofs (x := .normal) (e := e) (vs := []) (d := d80) (by rw [hF.F]; rfl) rfl ?_ (.inr rfl) rfl, h2.fin elI_flat⟩
    simp [d80, c80, zipE, go_nil, go_last, go_past, go_pastR, go_blkN, go_blkR, go_blkE, go_skip, go_exit, go_ret, go_scope, go_seq, go_reg, go_regd, go_opdN, go_opd, go_opdG, grdd_b, grdd_u, stpd_some, find_some, go_block, go_cond, cnd_b, go_opsN, go_ops, go_opsG, grd_b, grd_u, stp_some, fin_some, up_some, cont_some, k_call, k_mv, k_pick, k_bin, k_eqB, k_eqA, k_not, k_neg, k_conv, k_alloc, k_boxA, k_boxI, k_boxB, k_boxN, k_boxBs, k_ldR, k_ldA, k_ldI, k_ldB, k_stA, k_stI, k_stB, ldC_some, stC_some, k_mkfn, k_slc, k_slcA, k_ixA, k_ixBs, k_ixSl, k_fadr, k_fld, k_ext, k_len, k_app, k_mn, k_mx, k_nilck, k_build, k_bsl1, k_bsl2, b_add, b_sub, b_mul, b_eql, b_neq, b_lss, b_leq, b_gtr, b_geq, Dn.setLast, Dn.getLast, evalO, mapO, Dn.get, putE, keepE, TV.one, TV.isAgg, Dn.part, hlen, e2, go_denK (c := l80_1) rfl, h1]
  · refine ⟨H, body_ofs (x := .normal) (e := [(0, .sl id 0 1 false 1 (some 1)), (2, .i .i64 0), (3, .i .i64 0), (9, .b false)]) (vs := []) (d := d80) (by rw [hF.F]; rfl) rfl ?_ (.inr rfl) rfl, ?_⟩
    · have hlen : ∀ K, dkc pg (den pg) (.len 0) [.sl id 0 1 false 1 (some 1)] K = some (.i .i64 1, K) := fun K => by rw [k_len]; rfl
      have hlk : ∀ K, lenK 0 (.sl id 0 1 false 1 (some 1)) K = some 1 := fun K => rfl
      have hrun : den pg l80_1 [(0, .sl id 0 1 false 1 (some 1)), (2, .i .i64 0), (3, .i .i64 0)] H = some ⟨.exit 0, [(0, .sl id 0 1 false 1 (some 1)), (2, .i .i64 0), (3, .i .i64 0), (9, .b false)], H⟩ := by
        rw [l80_1, den_loop]
        simp [b80_0, go_nil, go_last, go_past, go_pastR, go_blkN, go_blkR, go_blkE, go_skip, go_exit, go_ret, go_scope, go_seq, go_reg, go_regd, go_opdN, go_opd, go_opdG, grdd_b, grdd_u, stpd_some, find_some, go_block, go_cond, cnd_b, go_opsN, go_ops, go_opsG, grd_b, grd_u, stp_some, fin_some, up_some, cont_some, k_call, k_mv, k_pick, k_bin, k_eqB, k_eqA, k_not, k_neg, k_conv, k_alloc, k_boxA, k_boxI, k_boxB, k_boxN, k_boxBs, k_ldR, k_ldA, k_ldI, k_ldB, k_stA, k_stI, k_stB, ldC_some, stC_some, k_mkfn, k_slc, k_slcA, k_ixA, k_ixBs, k_ixSl, k_fadr, k_fld, k_ext, k_len, k_app, k_mn, k_mx, k_nilck, k_build, k_bsl1, k_bsl2, b_add, b_sub, b_mul, b_eql, b_neq, b_lss, b_leq, b_gtr, b_geq, Dn.setLast, Dn.getLast, evalO, mapO, Dn.get, putE, keepE, TV.one, TV.isAgg, Dn.part]
      have w1 : wrapR .i64 0 = .i .i64 0 := wrapR_i64 (by omega)
      simp [d80, c80, zipE, go_nil, go_last, go_past, go_pastR, go_blkN, go_blkR, go_blkE, go_skip, go_exit, go_ret, go_scope, go_seq, go_reg, go_regd, go_opdN, go_opd, go_opdG, grdd_b, grdd_u, stpd_some, find_some, go_block, go_cond, cnd_b, go_opsN, go_ops, go_opsG, grd_b, grd_u, stp_some, fin_some, up_some, cont_some, k_call, k_mv, k_pick, k_bin, k_eqB, k_eqA, k_not, k_neg, k_conv, k_alloc, k_boxA, k_boxI, k_boxB, k_boxN, k_boxBs, k_ldR, k_ldA, k_ldI, k_ldB, k_stA, k_stI, k_stB, ldC_some, stC_some, k_mkfn, k_slc, k_slcA, k_ixA, k_ixBs, k_ixSl, k_fadr, k_fld, k_ext, k_len, k_app, k_mn, k_mx, k_nilck, k_build, k_bsl1, k_bsl2, b_add, b_sub, b_mul, b_eql, b_neq, b_lss, b_leq, b_gtr, b_geq, Dn.setLast, Dn.getLast, evalO, mapO, Dn.get, putE, keepE, TV.one, TV.isAgg, Dn.part, hlk, w1, go_denK (c := l80_1) rfl, hrun]
    · rw [sn_sl _ (by decide), hid, slB_some]
      simp [sn_i, sn_b, sn_nil, sn8_i, sn8_b, sn8_nil, sn7_i, sn7_b, sn_sl, sn8_sl, slB_some, sn_tup, sn_agg, sn8_agg, mapO, elems, elI, El.lt, El.val]

/-- the way from one square to another: one square more than its level -/
theorem fn65 {pg : Pg} (hF : Free pg) {r c a b : Nat} {bo : Bool} (h : Brd r c) (ha : a < r * c) (hb : b < r * c) :
    (∃ m ws, ws.length = m + 1 ∧ PFn pg 65 [.bp bo (.agg (bM r c)), .i .i64 (a : Int), .i .i64 (b : Int)] (elI.lt false ws) ∧ (front r c a m).testBit b = true ∧ (∀ k, k < m → (front r c a k).testBit b = false) ∧ ws = ([(b : Int)] ++ backs r c a m b).reverse) ∨
    (∃ m, PFn pg 65 [.bp bo (.agg (bM r c)), .i .i64 (a : Int), .i .i64 (b : Int)] .nilsl ∧ front r c a m = 0 ∧ ∀ k, k < m → (front r c a k).testBit b = false) := by
  obtain ⟨H2, g, hh⟩ := half65 hF (bo := bo) h ha hb
  have hd : pg.F 65 = some d65 := by rw [hF.F]; rfl
  have kb : dkc pg (den pg) (.box false) [.i .i64 (b : Int)] [] = some (.ref 0 0, [.cells [.i .i64 (b : Int)] false]) := rfl
  have b73 := body73 hF (.agg (bM r c)) bo (a : Int) [.cells [.i .i64 (b : Int)] false, .cells [.nilsl] false, .cells [.b false] false]
  simp only [List.length_cons, List.length_nil, Nat.zero_add, Nat.reduceAdd, List.cons_append, List.nil_append] at b73
  have hh65 : h65 r c a b bo = [.cells [.i .i64 (b : Int)] false, .cells [.nilsl] false, .cells [.b false] false, .cells [.bp bo (.agg (bM r c))] false, .cells [.i .i64 (a : Int)] false] := rfl
  unfold e65 k65 at g
  rw [hh65] at g
  rcases hh with ⟨m, c1, c2, c3, c4⟩ | ⟨m, c1, c2, c3, c4⟩
  · obtain ⟨N, hN, hz⟩ := lv_end h ha
    have hm64 : m ≤ 64 := by
      apply Classical.byContradiction
      intro hc
      have h1 := front_walks h ha m b hb c3
      have h2 := no_steps h ha hb (N := N) hz (fun k hk => c4 k (by omega)) m
      omega
    obtain ⟨R, r1, r2, r3⟩ := c1.acc.cell
    have g0 : H2[0]? = some (.cells [.i .i64 (b : Int)] false) := c1.acc.old 0 (by omega)
    have hl2 := c1.acc.len
    obtain ⟨H3, hH3⟩ : ∃ H3, H3 = H2 ++ [.cells [.i .i64 (b : Int)] false] := ⟨_, rfl⟩
    have kp : ∀ j, j < H2.length → H3[j]? = H2[j]? := fun j hj => by rw [hH3, List.getElem?_append_left hj]
    have hl3 : H3.length = H2.length + 1 := by rw [hH3]; simp
    have own3 : elU.Own H3 R (fronts r c a (m + 1)) := r2.mono fun id hid => kp id (r2.lt id hid)
    have hag : R.isAgg = false := by rcases r2 with ⟨rfl, _⟩ | ⟨_, id, ag, cc, rfl, _⟩ <;> rfl
    have hB : Bk r c a m b R (.sl H2.length 0 1 false 1 (some 1)) [(b : Int)] H3 :=
      ⟨by rw [kp 0 (by omega)]; exact g0, by rw [kp 1 (by omega)]; exact r1, hag, own3.view, fun id hid => ⟨by have := r3 id hid; omega, own3.lt id hid⟩, .inr ⟨H2.length, (b : Int), rfl, rfl, by rw [hH3]; exact getLast _ _⟩,
        fun id hid => by
          have : H2.length = id := Option.some.inj hid
          subst this
          exact ⟨by omega, fun hr => by have := r2.lt _ hr; omega⟩⟩
    obtain ⟨e, W', H4, x', q1, q2, q3⟩ := l65_3_all hF (bo := bo) h ha (by omega) m b _ _ H3 (Nat.le_refl _) hb c3 (by simp; omega) hB
    have hwl : ([(b : Int)] ++ backs r c a m b).length = m + 1 := by simp [backs_len]
    obtain ⟨H5, p1, p3⟩ := body80w hF q3.way (by rw [hwl]; omega)
    refine .inl ⟨m, _, by rw [List.length_reverse, hwl], .inr ⟨hF.S _ _ (by decide), W', H5, body_of (x := .ret) (e := [(6, W')]) hd rfl ?_ (.inl rfl) rfl, p3⟩, c3, c4, rfl⟩
    have l8 := ld_box (pg := pg) (R := den pg) c2 rfl
    have l0 := ld_box (pg := pg) (R := den pg) g0 rfl
    have l1 := ld_box (pg := pg) (R := den pg) (show H3[1]? = some (.cells [R] false) from hB.list) hag
    have hlen := own3.view.lenK
    rw [fronts_len] at hlen
    have w1 : wrapR .i64 ((m : Int) + 1 - 2) = .i .i64 ((m : Int) - 1) := by rw [show (m : Int) + 1 - 2 = (m : Int) - 1 by omega]; exact wrapR_i64 (by omega)
    have hp : put2 [TV.b false] 0 [TV.b false] = [TV.b false] := rfl
    generalize TV.agg (bM r c) = BM at *
    simp only [go_block] at g
    simp [d65, c65, zipE, go_nil, go_last, go_past, go_pastR, go_blkN, go_blkR, go_blkE, go_skip, go_exit, go_ret, go_scope, go_seq, go_reg, go_regd, go_opdN, go_opd, go_opdG, grdd_b, grdd_u, stpd_some, find_some, go_block, go_cond, cnd_b, go_opsN, go_ops, go_opsG, grd_b, grd_u, stp_some, fin_some, up_some, cont_some, k_call, k_mv, k_pick, k_bin, k_eqB, k_eqA, k_not, k_neg, k_conv, k_alloc, k_boxA, k_boxI, k_boxB, k_boxN, k_boxBs, k_ldR, k_ldA, k_ldI, k_ldB, k_stA, k_stI, k_stB, ldC_some, stC_some, k_mkfn, k_slc, k_slcA, k_ixA, k_ixBs, k_ixSl, k_fadr, k_fld, k_ext, k_len, k_app, k_mn, k_mx, k_nilck, k_build, k_bsl1, k_bsl2, b_add, b_sub, b_mul, b_eql, b_neq, b_lss, b_leq, b_gtr, b_geq, Dn.setLast, Dn.getLast, evalO, mapO, Dn.get, putE, keepE, TV.one, TV.isAgg, Dn.part, sh_fn, hp, b73, g, l8, l0, ← hH3, l1, hlen, w1, go_denK (c := l65_3) rfl, q1, q2, p1]
  · refine .inr ⟨m, .of1 (x := .ret) (e := [(6, .nilsl)]) (H' := H2) (hF.S _ _ (by decide)) hd rfl ?_ (.inl rfl) rfl (by simp [sn_i, sn_b, sn_nil, sn8_i, sn8_b, sn8_nil, sn7_i, sn7_b, sn_sl, sn8_sl, slB_some, sn_tup, sn_agg, sn8_agg, mapO, elems]), c3, c4⟩
    have l8 := ld_box (pg := pg) (R := den pg) c2 rfl
    generalize TV.agg (bM r c) = BM at *
    have hp : put2 [TV.b false] 0 [TV.b false] = [TV.b false] := rfl
    simp only [go_block] at g
    simp [d65, c65, zipE, go_nil, go_last, go_past, go_pastR, go_blkN, go_blkR, go_blkE, go_skip, go_exit, go_ret, go_scope, go_seq, go_reg, go_regd, go_opdN, go_opd, go_opdG, grdd_b, grdd_u, stpd_some, find_some, go_block, go_cond, cnd_b, go_opsN, go_ops, go_opsG, grd_b, grd_u, stp_some, fin_some, up_some, cont_some, k_call, k_mv, k_pick, k_bin, k_eqB, k_eqA, k_not, k_neg, k_conv, k_alloc, k_boxA, k_boxI, k_boxB, k_boxN, k_boxBs, k_ldR, k_ldA, k_ldI, k_ldB, k_stA, k_stI, k_stB, ldC_some, stC_some, k_mkfn, k_slc, k_slcA, k_ixA, k_ixBs, k_ixSl, k_fadr, k_fld, k_ext, k_len, k_app, k_mn, k_mx, k_nilck, k_build, k_bsl1, k_bsl2, b_add, b_sub, b_mul, b_eql, b_neq, b_lss, b_leq, b_gtr, b_geq, Dn.setLast, Dn.getLast, evalO, mapO, Dn.get, putE, keepE, TV.one, TV.isAgg, Dn.part, sh_fn, hp, b73, g, l8]

end Go.Proofs.Tryd.Dn

