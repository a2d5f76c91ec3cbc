/-
  Dice: all orders of some indices, walked.
-/
import Derived.Test.YtijeefncmgjlpaaU7
import Derived.Test.YtijeefncmgjlpaaU9
import Derived.Test.YtijeefncmgjlpaaR6
import Derived.Test.YtijeefncmgjlpaaV2
set_option linter.unusedSimpArgs false
set_option linter.unusedVariables false

set_option maxHeartbeats 4000000
set_option maxRecDepth 100000
namespace Go.Proofs.Try.Dn
open Go.Dn

/-! ### Contains -/
theorem l91_1_no {pg : Pg} {L : TV} {l : List Int} (hL : SV L l) {x : Int} (hx : x ∉ l) (hl : l.length ≤ 1000000) : ∀ (r j : Nat), j + r = l.length →
    ∃ e, den pg l91_1 [(0, L), (1, .i .i64 x), (7, .i .i64 (l.length : Int)), (8, .i .i64 (j : Int))] [] = some ⟨.exit 0, e, []⟩
  | 0, j, hj => by
    obtain rfl : j = l.length := by omega
    exact ⟨_, by rw [l91_1, den_loop]; simp (disch := omega) [b91_0, gX0, gX1, gX2, gX3, gX4, gX5, gX6, gX7, gX8, gX9, gXa, gXb, gXc, gXd, gXe, gXf, gXg, gXh, gXi, gXj, gXk, gXl, gXm, gXn, gXo, gXp, gXq, gXr, gXs, gXt, gXu, gXv, gXw, gXx, k_mv, gXy, gXz, gX01, gX11, gX21, gX31, gX41, gX51, gX61, gX71, gX81, gX91, gXa1, gXb1, gXc1, gXd1, gXe1, gXf1, gXg1, gXh1, gXi1, gXj1, gXk1, gXl1, gXm1, gXn1, gXo1, gXp1, gXq1, gXr1, gXs1, gXt1, gXu1, k_mn, k_mx, gXv1, gXw1, gXx1, gXy1, gXz1, gX02, gX12, gX22, gX32, gX42, gX52, gX62, gX72, Dn.setLast, Dn.getLast, evalO, mapO, Dn.get, putE, gX82, gX92, gXa2, gXb2, TV.one, TV.isAgg, Dn.part, gXc2, negb, at0, at1, at2, at3, at4, dT, dF, gXd2, Option.bind_some, Option.map_some]; rfl⟩
  | r + 1, j, hj => by
    obtain ⟨y, hy⟩ : ∃ y, l[j]? = some y := ⟨_, List.getElem?_eq_getElem (by omega)⟩
    have hne : ¬ x = y := fun e => hx (by rw [e]; exact List.mem_of_getElem? hy)
    obtain ⟨p, p1, p2⟩ := ixI (pg := pg) (R := den pg) (hL.view []) hy
    have dd : decide ((j : Int) < (l.length : Int)) = true := dT (by omega)
    have w2 : wrapR .i64 ((j : Int) + 1) = .i .i64 ((j + 1 : Nat) : Int) := by rw [← Int.natCast_succ]; exact gXd2 (by omega)
    obtain ⟨e, ih⟩ := l91_1_no (pg := pg) hL hx hl r (j + 1) (by omega)
    refine ⟨e, Eq.trans ?_ ih⟩
    clear ih hl hx hy hL
    generalize (l.length : Int) = M at *
    generalize ((j + 1 : Nat) : Int) = J2 at *
    generalize (j : Int) = J at *
    conv => lhs; rw [l91_1, den_loop]
    simp (disch := omega) [l91_1, b91_0, gX0, gX1, gX2, gX3, gX4, gX5, gX6, gX7, gX8, gX9, gXa, gXb, gXc, gXd, gXe, gXf, gXg, gXh, gXi, gXj, gXk, gXl, gXm, gXn, gXo, gXp, gXq, gXr, gXs, gXt, gXu, gXv, gXw, gXx, k_mv, gXy, gXz, gX01, gX11, gX21, gX31, gX41, gX51, gX61, gX71, gX81, gX91, gXa1, gXb1, gXc1, gXd1, gXe1, gXf1, gXg1, gXh1, gXi1, gXj1, gXk1, gXl1, gXm1, gXn1, gXo1, gXp1, gXq1, gXr1, gXs1, gXt1, gXu1, k_mn, k_mx, gXv1, gXw1, gXx1, gXy1, gXz1, gX02, gX12, gX22, gX32, gX42, gX52, gX62, gX72, Dn.setLast, Dn.getLast, evalO, mapO, Dn.get, putE, gX82, gX92, gXa2, gXb2, TV.one, TV.isAgg, Dn.part, gXc2, negb, at0, at1, at2, at3, at4, dT, dF, gXd2, Option.bind_some, Option.map_some, dd, p1, p2, hne, w2]

theorem fn91_no {pg : Pg} (hF : Free pg) {L : TV} {l : List Int} (hL : SV L l) {x : Int} (hx : x ∉ l) (hl : l.length ≤ 1000000) : PFn pg 91 [L, .i .i64 x] (.i .i64 (-1)) := by
  obtain ⟨e, q⟩ := l91_1_no (pg := pg) hL hx hl l.length 0 (by omega)
  have ln := (hL.view []).lenK
  refine .of1 (x := .ret) (e := [(4, .i .i64 (-1))]) (H' := []) (hF.S _ _) (d := d91) (by rw [hF.F]; rfl) rfl ?_ (.inl rfl) rfl (by simp [sn_i, sn_b, gXe2, gXf2, gXg2, gXh2, gXi2, gXj2, gXk2, gXl2, gXm2, gXn2, gXo2, gXp2, mapO, elems])
  simp only [Int.natCast_zero] at q
  clear hx hL
  obtain ⟨N, hN⟩ : ∃ N, N = l.length := ⟨_, rfl⟩
  rw [← hN] at ln q
  simp (disch := omega) [d91, c91, zipE, gX0, gX1, gX2, gX3, gX4, gX5, gX6, gX7, gX8, gX9, gXa, gXb, gXc, gXd, gXe, gXf, gXg, gXh, gXi, gXj, gXk, gXl, gXm, gXn, gXo, gXp, gXq, gXr, gXs, gXt, gXu, gXv, gXw, gXx, k_mv, gXy, gXz, gX01, gX11, gX21, gX31, gX41, gX51, gX61, gX71, gX81, gX91, gXa1, gXb1, gXc1, gXd1, gXe1, gXf1, gXg1, gXh1, gXi1, gXj1, gXk1, gXl1, gXm1, gXn1, gXo1, gXp1, gXq1, gXr1, gXs1, gXt1, gXu1, k_mn, k_mx, gXv1, gXw1, gXx1, gXy1, gXz1, gX02, gX12, gX22, gX32, gX42, gX52, gX62, gX72, Dn.setLast, Dn.getLast, evalO, mapO, Dn.get, putE, gX82, gX92, gXa2, gXb2, TV.one, TV.isAgg, Dn.part, gXc2, negb, at0, at1, at2, at3, at4, dT, dF, gXd2, Option.bind_some, Option.map_some, ln, go_denK (c := l91_1) rfl, q]

theorem first_at {l : List Int} {x : Int} (h : x ∈ l) : ∃ k : Nat, l[k]? = some x ∧ ∀ (j : Nat) (y : Int), j < k → l[j]? = some y → y ≠ x := by
  induction l with
  | nil => simp at h
  | cons a l ih =>
    by_cases ha : a = x
    · exact ⟨0, by simp [ha], fun j y hj => by omega⟩
    · obtain ⟨k, h1, h2⟩ := ih (by rcases List.mem_cons.1 h with h | h; exact absurd h.symm ha; exact h)
      refine ⟨k + 1, by simpa using h1, fun j y hj hy => ?_⟩
      cases j with
      | zero => simp at hy; rw [← hy]; exact ha
      | succ j => exact h2 j y (by omega) (by simpa using hy)

theorem fn95 {pg : Pg} (hF : Free pg) {L : TV} {l : List Int} (hL : SV L l) (x : Int) (hl : l.length ≤ 1000000) : PFn pg 95 [L, .i .i64 x] (.b (decide (x ∈ l))) := by
  obtain ⟨L', s1, hL'⟩ := hL.snap [] 7
  by_cases hx : x ∈ l
  · obtain ⟨k, k1, k2⟩ := first_at hx
    have hlt := (List.getElem?_eq_some_iff.1 k1).1
    have hne : l ≠ [] := by intro e; rw [e] at hx; simp at hx
    have eL : L' = elI.lt true l := by
      rcases hL with ⟨rfl, h⟩ | ⟨bo, rfl⟩
      · exact absurd h hne
      · have e : TV.bs bo 1 (l.map elI.val) = elI.lt bo l := by rw [El.lt_ne hne]; rfl
        rw [e] at s1
        have s2 := El.lt_snap elI_flat bo l []
        rw [show (9 : Nat) = 7 + 2 from rfl, s1] at s2
        exact Option.some.inj s2
    have c91 := PFn.call (fn91 (pg := pg) hF k1 k2 hl) (args := [L, .i .i64 x]) (ks := []) (fs := []) (cs := []) (H := []) (by simp [snapArgs, s1, sn_i, eL])
    have d0 : decide (0 ≤ (k : Int)) = true := dT (by omega)
    refine .of1 (x := .ret) (e := [(4, .b true)]) (H' := []) (hF.S _ _) (d := d95) (by rw [hF.F]; rfl) rfl ?_ (.inl rfl) (by simp [d95, mapO, resRun, Go.Dn.get, hx]) (by simp [sn_i, sn_b, gXe2, gXf2, gXg2, gXh2, gXi2, gXj2, gXk2, gXl2, gXm2, gXn2, gXo2, gXp2, mapO, elems])
    generalize (k : Int) = K at *
    simp (disch := omega) [d95, c95, zipE, gX0, gX1, gX2, gX3, gX4, gX5, gX6, gX7, gX8, gX9, gXa, gXb, gXc, gXd, gXe, gXf, gXg, gXh, gXi, gXj, gXk, gXl, gXm, gXn, gXo, gXp, gXq, gXr, gXs, gXt, gXu, gXv, gXw, gXx, k_mv, gXy, gXz, gX01, gX11, gX21, gX31, gX41, gX51, gX61, gX71, gX81, gX91, gXa1, gXb1, gXc1, gXd1, gXe1, gXf1, gXg1, gXh1, gXi1, gXj1, gXk1, gXl1, gXm1, gXn1, gXo1, gXp1, gXq1, gXr1, gXs1, gXt1, gXu1, k_mn, k_mx, gXv1, gXw1, gXx1, gXy1, gXz1, gX02, gX12, gX22, gX32, gX42, gX52, gX62, gX72, Dn.setLast, Dn.getLast, evalO, mapO, Dn.get, putE, gX82, gX92, gXa2, gXb2, TV.one, TV.isAgg, Dn.part, gXc2, negb, at0, at1, at2, at3, at4, dT, dF, gXd2, Option.bind_some, Option.map_some, c91, d0]
  · have c91 := PFn.call (fn91_no (pg := pg) hF hL' hx hl) (args := [L, .i .i64 x]) (ks := []) (fs := []) (cs := []) (H := []) (by simp [snapArgs, s1, sn_i])
    refine .of1 (x := .ret) (e := [(4, .b false)]) (H' := []) (hF.S _ _) (d := d95) (by rw [hF.F]; rfl) rfl ?_ (.inl rfl) (by simp [d95, mapO, resRun, Go.Dn.get, hx]) (by simp [sn_i, sn_b, gXe2, gXf2, gXg2, gXh2, gXi2, gXj2, gXk2, gXl2, gXm2, gXn2, gXo2, gXp2, mapO, elems])
    simp (disch := omega) [d95, c95, zipE, gX0, gX1, gX2, gX3, gX4, gX5, gX6, gX7, gX8, gX9, gXa, gXb, gXc, gXd, gXe, gXf, gXg, gXh, gXi, gXj, gXk, gXl, gXm, gXn, gXo, gXp, gXq, gXr, gXs, gXt, gXu, gXv, gXw, gXx, k_mv, gXy, gXz, gX01, gX11, gX21, gX31, gX41, gX51, gX61, gX71, gX81, gX91, gXa1, gXb1, gXc1, gXd1, gXe1, gXf1, gXg1, gXh1, gXi1, gXj1, gXk1, gXl1, gXm1, gXn1, gXo1, gXp1, gXq1, gXr1, gXs1, gXt1, gXu1, k_mn, k_mx, gXv1, gXw1, gXx1, gXy1, gXz1, gX02, gX12, gX22, gX32, gX42, gX52, gX62, gX72, Dn.setLast, Dn.getLast, evalO, mapO, Dn.get, putE, gX82, gX92, gXa2, gXb2, TV.one, TV.isAgg, Dn.part, gXc2, negb, at0, at1, at2, at3, at4, dT, dF, gXd2, Option.bind_some, Option.map_some, c91]

/-! ### all orders -/
def perms (n : Nat) : Nat → List Nat → List (List Nat)
  | 0, l => [l]
  | k + 1, l => (List.range n).flatMap fun i => if i ∈ l then [] else perms n k (l ++ [i])

structure Con1 (pg : Pg) (Y : TV) (n : Nat) (I : List (List Nat) → (Nat → Prop) → Heap → Prop) : Prop where
  ag : Y.isAgg = false
  lt : ∀ acc own H, I acc own H → ∀ j, own j → j < H.length
  still : ∀ acc own H H', I acc own H → (∀ j, own j → H'[j]? = H[j]?) → I acc own H'
  step : ∀ acc own H a, I acc own H → acc.length < 10000 → a.length = n → (∀ x ∈ a, x < n) → ∃ own' H', callRun pg (den pg) .sh [Y, elI.lt false (ci a)] H = some (.b true, H') ∧ I (acc ++ [a]) own' H' ∧
    (∀ j, j < H.length → ¬ own j → H'[j]? = H[j]?) ∧ H.length ≤ H'.length ∧ ∀ j, own' j → own j ∨ H.length ≤ j

structure Q94 where
  (rL rN rY rG : Nat)
def Q94.ids (q : Q94) : List Nat := [q.rL, q.rN, q.rY, q.rG]
def Q94.caps (q : Q94) : List TV := [.ref q.rL 0, .ref q.rN 0, .ref q.rY 0, .ref q.rG 0]

structure HO (q : Q94) (n : Nat) (Y : TV) (I : List (List Nat) → (Nat → Prop) → Heap → Prop) (l : List Nat) (acc : List (List Nat)) (tL : TV) (own : Nat → Prop) (H : Heap) : Prop where
  hL : H[q.rL]? = some (.cells [tL] false)
  wL : PW H tL (ci l)
  hN : H[q.rN]? = some (.cells [.i .i64 (n : Int)] false)
  hY : H[q.rY]? = some (.cells [Y] false)
  hG : H[q.rG]? = some (.cells [.fn 94 [] q.caps] false)
  nd : q.ids.Nodup
  dL : ∀ id, tL.idOf = some id → id ∉ q.ids ∧ ¬ own id
  dO : ∀ j, own j → j ∉ q.ids
  con : I acc own H

theorem HO.lt {q : Q94} {n : Nat} {Y : TV} {I : List (List Nat) → (Nat → Prop) → Heap → Prop} {l : List Nat} {acc : List (List Nat)} {tL : TV} {own : Nat → Prop} {H : Heap} (h : HO q n Y I l acc tL own H) : ∀ j ∈ q.ids, j < H.length := by
  have lt := fun {j o} (e : H[j]? = some o) => (List.getElem?_eq_some_iff.1 e).1
  intro j hj
  simp only [Q94.ids, List.mem_cons, List.mem_nil_iff, or_false] at hj
  rcases hj with rfl | rfl | rfl | rfl
  · exact lt h.hL
  · exact lt h.hN
  · exact lt h.hY
  · exact lt h.hG

theorem HO.took {pg : Pg} {q : Q94} {n : Nat} {Y : TV} {I : List (List Nat) → (Nat → Prop) → Heap → Prop} {l : List Nat} {acc acc' : List (List Nat)} {tL : TV} {own own' : Nat → Prop} {H H' : Heap} (h : HO q n Y I l acc tL own H) (hi : I acc' own' H') (hf : ∀ j, j < H.length → ¬ own j → H'[j]? = H[j]?) (hn : ∀ j, own' j → own j ∨ H.length ≤ j) : HO q n Y I l acc' tL own' H' := by
  have keep : ∀ j ∈ q.ids, H'[j]? = H[j]? := fun j hj => hf j (h.lt j hj) fun ho => h.dO j ho hj
  have m : ∀ x, x = q.rL ∨ x = q.rN ∨ x = q.rY ∨ x = q.rG → x ∈ q.ids := fun x hx => by simpa [Q94.ids] using hx
  exact
  { hL := by rw [keep _ (m _ (by simp))]; exact h.hL
    wL := h.wL.mono fun id hid => hf id (h.wL.lt id hid) (h.dL id hid).2
    hN := by rw [keep _ (m _ (by simp))]; exact h.hN
    hY := by rw [keep _ (m _ (by simp))]; exact h.hY
    hG := by rw [keep _ (m _ (by simp))]; exact h.hG
    nd := h.nd
    dL := fun id hid => ⟨(h.dL id hid).1, fun ho => by
      rcases hn id ho with ho | ho
      · exact (h.dL id hid).2 ho
      · have := h.wL.lt id hid; omega⟩
    dO := fun j hj hm => by
      rcases hn j hj with ho | ho
      · exact h.dO j ho hm
      · have := h.lt j hm; omega
    con := hi }

theorem HO.setL {pg : Pg} {q : Q94} {n : Nat} {Y : TV} {I : List (List Nat) → (Nat → Prop) → Heap → Prop} (hC : Con1 pg Y n I) {l l' : List Nat} {acc : List (List Nat)} {tL tL' : TV} {own : Nat → Prop} {H H' : Heap} (h : HO q n Y I l acc tL own H) (hw : PW H' tL' (ci l')) (hf : ∀ j, j < H.length → tL.idOf ≠ some j → H'[j]? = H[j]?) (hn : tL'.idOf = tL.idOf ∨ ∀ id, tL'.idOf = some id → H.length ≤ id) (hl : H.length ≤ H'.length) : HO q n Y I l' acc tL' own (H'.set q.rL (.cells [tL'] false)) := by
  have nd := h.nd
  have lt := h.lt
  simp only [Q94.ids, List.nodup_cons, List.mem_cons, List.mem_nil_iff, or_false, not_or, not_false_eq_true, List.nodup_nil, and_true] at nd
  have m : ∀ x, x = q.rL ∨ x = q.rN ∨ x = q.rY ∨ x = q.rG → x ∈ q.ids := fun x hx => by simpa [Q94.ids] using hx
  have inn : ∀ j ∈ q.ids, tL.idOf ≠ some j := fun j hj he => (h.dL j he).1 hj
  have keep : ∀ j ∈ q.ids, j ≠ q.rL → (H'.set q.rL (.cells [tL'] false))[j]? = H[j]? := fun j hj hne => by
    rw [List.getElem?_set_ne (Ne.symm hne)]
    exact hf j (lt j hj) (inn j hj)
  have hd' : ∀ id, tL'.idOf = some id → id ∉ q.ids ∧ ¬ own id := fun id hid => by
    rcases hn with e | hn
    · exact h.dL id (by rw [← e]; exact hid)
    · have hge := hn id hid
      exact ⟨fun hm => by have := lt id hm; omega, fun ho => by have := hC.lt _ _ _ h.con id ho; omega⟩
  have lL := lt q.rL (m _ (by simp))
  exact
  { hL := by rw [List.getElem?_set_self (by omega)]
    wL := hw.mono fun id hid => List.getElem?_set_ne fun (e : q.rL = id) => (hd' id hid).1 (by rw [← e]; exact m _ (by simp))
    hN := by rw [keep _ (m _ (by simp)) (by omega)]; exact h.hN
    hY := by rw [keep _ (m _ (by simp)) (by omega)]; exact h.hY
    hG := by rw [keep _ (m _ (by simp)) (by omega)]; exact h.hG
    nd := h.nd
    dL := hd'
    dO := h.dO
    con := hC.still _ _ _ _ h.con fun j hj => by
      rw [List.getElem?_set_ne (fun (e : q.rL = j) => h.dO j hj (by rw [← e]; exact m _ (by simp)))]
      exact hf j (hC.lt _ _ _ h.con j hj) fun e => (h.dL j e).2 hj }

end Go.Proofs.Try.Dn

