/-
  Dice: Orders: the loop over all orders.
-/
import Derived.Test.YtijeefncmgjlpaaV5
import Derived.Test.YtijeefncmgjlpaaEk
set_option linter.unusedSimpArgs false
set_option linter.unusedVariables false

set_option maxHeartbeats 4000000
set_option maxRecDepth 100000
namespace Go.Proofs.Try.Dn
open Go.Dn

def L41 (rD rO : Nat) : ALoop := { env := [(1, .ref rD 0), (13, .ref rO 0)], params := [69], assign := a41_14, body := b41_15, st := .ready, pend := none }

structure I41 (T : TV) (ls : List (List Int)) (y rD rO : Nat) (acc : List (List Nat)) (own : Nat → Prop) (H : Heap) (t : TV) : Prop where
  lp : H[y]? = some (.loop (L41 rD rO))
  dc : H[rD]? = some (.cells [T] false)
  cell : H[rO]? = some (.cells [t] false)
  ow : elI.Own H t (acc.map fun l => ((rs ls l (-1) : Nat) : Int))
  eq : ∀ j, own j ↔ (j = y ∨ j = rD ∨ j = rO ∨ t.idOf = some j)
  ny : t.idOf ≠ some y
  nr : t.idOf ≠ some rO
  nD : t.idOf ≠ some rD
  yr : y ≠ rO
  yD : y ≠ rD
  rDO : rD ≠ rO

theorem con41 {pg : Pg} {T : TV} {ls : List (List Int)} (hT : SSV T ls) (hD : ∀ d ∈ ls, DieL 60 d) (h6 : ls.length ≤ 6) (y rD rO : Nat) : Con1 pg (.yl y) ls.length (fun acc own H => ∃ t, I41 T ls y rD rO acc own H t) where
  ag := rfl
  lt := by
    rintro acc own H ⟨t, h⟩ j hj
    rcases (h.eq j).1 hj with rfl | rfl | rfl | hj
    · exact (List.getElem?_eq_some_iff.1 h.lp).1
    · exact (List.getElem?_eq_some_iff.1 h.dc).1
    · exact (List.getElem?_eq_some_iff.1 h.cell).1
    · exact h.ow.lt j hj
  still := by
    rintro acc own H H' ⟨t, h⟩ hf
    have hk : ∀ j, (j = y ∨ j = rD ∨ j = rO ∨ t.idOf = some j) → H'[j]? = H[j]? := fun j hj => hf j ((h.eq j).2 hj)
    exact ⟨t, { h with lp := by rw [hk y (by simp)]; exact h.lp, dc := by rw [hk rD (by simp)]; exact h.dc, cell := by rw [hk rO (by simp)]; exact h.cell, ow := h.ow.mono fun id hid => hk id (by simp [hid]) }⟩
  step := by
    rintro acc own H a ⟨t, h⟩ hacc hal hab
    have hyl := (List.getElem?_eq_some_iff.1 h.lp).1
    have hDl := (List.getElem?_eq_some_iff.1 h.dc).1
    have hOl := (List.getElem?_eq_some_iff.1 h.cell).1
    obtain ⟨va, hva⟩ : ∃ va, va = elI.lt false (ci a) := ⟨_, rfl⟩
    obtain ⟨H1, hH1⟩ : ∃ H1, H1 = H.set y (.loop { L41 rD rO with st := .busy }) := ⟨_, rfl⟩
    have o1 : ∀ j, j ≠ y → H1[j]? = H[j]? := fun j hj => by rw [hH1]; exact List.getElem?_set_ne (Ne.symm hj)
    have l1 : H1.length = H.length := by rw [hH1]; simp
    have y1 : H1[y]? = some (.loop { L41 rD rO with st := .busy }) := by rw [hH1]; simp [hyl]
    have w1 := h.ow.mono (H' := H1) fun id hid => o1 id fun e => h.ny (by rw [← e]; exact hid)
    obtain ⟨t', H', H3, b1, b2, b3, b4, b5, b6⟩ := run41_15 (pg := pg) (Lv := va) hT hD (rD := rD) (rO := rO) (l := a) (by omega) (by omega) (by rw [hva]; exact SV.lt false (ci a)) (H := H1) (tO := t) (by rw [o1 _ (Ne.symm h.yD)]; exact h.dc) (by rw [o1 _ (Ne.symm h.yr)]; exact h.cell) w1 (by simp; omega) h.nr
    have tl := h.ow.lt
    have hne : ∀ j, t'.idOf = some j → j ≠ y ∧ j ≠ rO ∧ j ≠ rD := fun j hj => by
      rcases b6 with rfl | b6
      · exact ⟨fun e => h.ny (by rw [← e]; exact hj), fun e => h.nr (by rw [← e]; exact hj), fun e => h.nD (by rw [← e]; exact hj)⟩
      · have := b6 j hj; exact ⟨by omega, by omega, by omega⟩
    have c3y : H3[y]? = some (.loop { L41 rD rO with st := .busy }) := by rw [b5 y (by omega) h.ny]; exact y1
    have y' : H'[y]? = some (.loop { L41 rD rO with st := .busy }) := by rw [b2, List.getElem?_set_ne (Ne.symm h.yr)]; exact c3y
    have lO3 : rO < H3.length := by omega
    have yl' : y < H'.length := (List.getElem?_eq_some_iff.1 y').1
    have o5 : ∀ j, j ≠ y → (H'.set y (.loop (L41 rD rO)))[j]? = H'[j]? := fun j hj => List.getElem?_set_ne (Ne.symm hj)
    have l' : H'.length = H3.length := by rw [b2]; simp
    refine ⟨fun j => j = y ∨ j = rD ∨ j = rO ∨ t'.idOf = some j, H'.set y (.loop (L41 rD rO)), ?_, ⟨t', ?_⟩, fun j hj hn => ?_, by simp; omega, fun j hj => ?_⟩
    · rw [sh_yl, ← hva]
      have := yield_of (pg := pg) (id := y) (L := L41 rD rO) (args := [va]) (H := H) (H' := H'.set y (.loop (L41 rD rO))) (x := .normal) rfl rfl rfl h.lp ⟨[(1, .ref rD 0), (13, .ref rO 0), (14, va)], H, [], H', ?_, h.lp, ?_, y', rfl⟩
      · rw [this, if_pos rfl]
      · show den pg a41_14 [(69, va), (1, .ref rD 0), (13, .ref rO 0)] H = _
        rw [den_eq, runC_go]
        simp (disch := omega) [a41_14, gX0, gX1, gX2, gX3, gX4, gX5, gX6, gX7, gX8, gX9, gXa, gXb, gXc, gXd, gXe, gXf, gXg, gXh, gXi, gXj, gXk, gXl, gXm, gXn, gXo, gXp, gXq, gXr, gXs, gXt, gXu, gXv, gXw, gXx, k_mv, gXy, gXz, gX01, gX11, gX21, gX31, gX41, gX51, gX61, gX71, gX81, gX91, gXa1, gXb1, gXc1, gXd1, gXe1, gXf1, gXg1, gXh1, gXi1, gXj1, gXk1, gXl1, gXm1, gXn1, gXo1, gXp1, gXq1, gXr1, gXs1, gXt1, gXu1, k_mn, k_mx, gXv1, gXw1, gXx1, gXy1, gXz1, gX02, gX12, gX22, gX32, gX42, gX52, gX62, gX72, Dn.setLast, Dn.getLast, evalO, mapO, Dn.get, putE, gX82, gX92, gXa2, gXb2, TV.one, TV.isAgg, Dn.part, gXc2, negb, at0, at1, at2, at3, at4, dT, dF, gXd2, Option.bind_some, Option.map_some]
      · rw [← hH1]
        exact b1
    · exact { lp := by simp [yl'], dc := by rw [o5 rD (Ne.symm h.yD), b2, List.getElem?_set_ne (Ne.symm h.rDO), b5 rD (by omega) h.nD, o1 _ (Ne.symm h.yD)]; exact h.dc, cell := by rw [o5 rO (Ne.symm h.yr), b2]; simp [lO3], ow := by
                rw [List.map_append]
                exact b3.mono fun id hid => by rw [o5 id (hne id hid).1, b2]; exact List.getElem?_set_ne (Ne.symm (hne id hid).2.1), eq := fun j => Iff.rfl, ny := fun e => (hne y e).1 rfl, nr := fun e => (hne rO e).2.1 rfl, nD := fun e => (hne rD e).2.2 rfl, yr := h.yr, yD := h.yD, rDO := h.rDO }
    · have hn' : ¬ (j = y ∨ j = rD ∨ j = rO ∨ t.idOf = some j) := fun hh => hn ((h.eq j).2 hh)
      simp only [not_or] at hn'
      rw [List.getElem?_set_ne (Ne.symm hn'.1), b2, List.getElem?_set_ne (Ne.symm hn'.2.2.1), b5 j (by omega) hn'.2.2.2, o1 j hn'.1]
    · rcases hj with hj | hj | hj | hj
      · exact .inl ((h.eq j).2 (.inl hj))
      · exact .inl ((h.eq j).2 (.inr (.inl hj)))
      · exact .inl ((h.eq j).2 (.inr (.inr (.inl hj))))
      · rcases b6 with rfl | b6
        · exact .inl ((h.eq j).2 (.inr (.inr (.inr hj))))
        · have := b6 j hj; exact .inr (by omega)

theorem body93 {pg : Pg} (hF : Free pg) {n : Nat} (hn : 1 ≤ n ∧ n ≤ 1000) {y : Nat} {I : List (List Nat) → (Nat → Prop) → Heap → Prop} (hC : Con1 pg (.yl y) n I) {rN : Nat} {own : Nat → Prop} {H : Heap} (hN : H[rN]? = some (.cells [.i .i64 (n : Int)] false)) (hI : I [] own H) (hd : ¬ own rN) (hp : (perms n n []).length < 10000) :
    ∃ own' H', bodyRun pg (den pg) 93 [.yl y, .ref rN 0] H = some (.tup [], H') ∧ I (perms n n []) own' H' := by
  have hrN := (List.getElem?_eq_some_iff.1 hN).1
  have olt := hC.lt _ _ _ hI
  let q : Q94 := { rL := H.length + 1, rN := rN, rY := H.length, rG := H.length + 2 }
  have hq : q.caps = [.ref (H.length + 1) 0, .ref rN 0, .ref H.length 0, .ref (H.length + 2) 0] := rfl
  obtain ⟨FN, hFN⟩ : ∃ FN, FN = TV.fn 94 [] q.caps := ⟨_, rfl⟩
  obtain ⟨K, hK⟩ : ∃ K, K = H ++ [AObj.cells [.yl y] false, .cells [.nilsl] false, .cells [FN] false] := ⟨_, rfl⟩
  have fK : ∀ j, j < H.length → K[j]? = H[j]? := fun j hj => by rw [hK, List.getElem?_append_left hj]
  have h0 : HO q n (.yl y) I [] [] .nilsl own K :=
    { hL := by rw [hK]; exact at_app _ _ 1
      wL := .inl ⟨rfl, rfl⟩
      hN := by show K[rN]? = _; rw [fK _ hrN]; exact hN
      hY := by rw [hK]; exact at_app _ _ 0
      hG := by rw [hK, ← hFN]; exact at_app _ _ 2
      nd := by
        show [H.length + 1, rN, H.length, H.length + 2].Nodup
        simp
        omega
      dL := fun id h => by cases h
      dO := fun j hj => by
        show j ∉ [H.length + 1, rN, H.length, H.length + 2]
        have := olt j hj
        have : j ≠ rN := fun e => hd (by rw [← e]; exact hj)
        simp
        omega
      con := hC.still _ _ _ _ hI fun j hj => fK j (olt j hj) }
  obtain ⟨tL', own', H', r1, r2⟩ := spec94 (pg := pg) hF hn hC n [] [] own .nilsl K h0 (by simp) (by simp) (by simpa using hp)
  rw [List.nil_append] at r2
  refine ⟨own', H', ?_, r2.con⟩
  have bx : dkc pg (den pg) (.box false) [.yl y] H = some (.ref H.length 0, H ++ [.cells [.yl y] false]) := rfl
  have s1 := stC1 (pg := pg) (H := H ++ [AObj.cells [.yl y] false, .cells [.nilsl] false, .cells [.nilfn] false]) (r := H.length + 2) (t := .nilfn) (v := FN) (at_app _ _ 2) (by rw [hFN]; rfl) (by rw [hFN]; rfl)
  have e1 : (H ++ [AObj.cells [.yl y] false, .cells [.nilsl] false, .cells [.nilfn] false]).set (H.length + 2) (.cells [FN] false) = K := by
    rw [hK, List.set_append_right _ _ (by omega), show H.length + 2 - H.length = 2 by omega]; rfl
  rw [e1] at s1
  have lg := ldC1 (pg := pg) (H := K) (r := H.length + 2) (t := FN) (by rw [hK]; exact at_app _ _ 2) (by rw [hFN]; rfl)
  have mf : ∀ K : Heap, dkc pg (den pg) (.mkfn 94 0) [.ref (H.length + 1) 0, .ref rN 0, .ref H.length 0, .ref (H.length + 2) 0] K = some (FN, K) := fun K => by rw [hFN]; rfl
  have cl : callRun pg (den pg) .sh [FN] K = some (.b true, H') := by rw [hFN]; exact r1
  refine bodyRun_of (vs := []) (o := ⟨.normal, [], H'⟩) (d := d93) (show pg.F 93 = some d93 by rw [hF.F]; rfl) rfl ?_ (by simp) rfl
  rw [runC_go]
  show go pg (den pg) [.c c93] .normal [(0, .yl y), (1, .ref rN 0)] H = _
  clear hK fK h0 r1 r2 hFN hq e1 hC hI olt hN
  simp (disch := omega) [c93, gX0, gX1, gX2, gX3, gX4, gX5, gX6, gX7, gX8, gX9, gXa, gXb, gXc, gXd, gXe, gXf, gXg, gXh, gXi, gXj, gXk, gXl, gXm, gXn, gXo, gXp, gXq, gXr, gXs, gXt, gXu, gXv, gXw, gXx, k_mv, gXy, gXz, gX01, gX11, gX21, gX31, gX41, gX51, gX61, gX71, gX81, gX91, gXa1, gXb1, gXc1, gXd1, gXe1, gXf1, gXg1, gXh1, gXi1, gXj1, gXk1, gXl1, gXm1, gXn1, gXo1, gXp1, gXq1, gXr1, gXs1, gXt1, gXu1, k_mn, k_mx, gXv1, gXw1, gXx1, gXy1, gXz1, gX02, gX12, gX22, gX32, gX42, gX52, gX62, gX72, Dn.setLast, Dn.getLast, evalO, mapO, Dn.get, putE, gX82, gX92, gXa2, gXb2, TV.one, TV.isAgg, Dn.part, gXc2, negb, at0, at1, at2, at3, at4, dT, dF, gXd2, Option.bind_some, Option.map_some, bx, List.length_append, List.append_assoc, mf, s1, lg, cl]

end Go.Proofs.Try.Dn

