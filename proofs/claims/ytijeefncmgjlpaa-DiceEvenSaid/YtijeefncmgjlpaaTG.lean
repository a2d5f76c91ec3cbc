/-
  The reference's even dice.
-/
import Derived.Test.YtijeefncmgjlpaaTF
set_option linter.unusedSimpArgs false
set_option linter.unusedVariables false

set_option maxHeartbeats 4000000
set_option maxRecDepth 100000
namespace Go.Proofs.Try.Dn
open Go.Dn

theorem RowG.bor {H : Heap} {id M : Nat} {G : Nat → Nat} (h : Go.Proofs.Try.Dn.RowG H id M G) (hM : 1 ≤ M) : snap .borrow H 9 (.sl id 0 1 false M (some M)) = some (elI.lt true (gL G M)) := by
  have hv : gC G M = elI.flat (gL G M) := by
    unfold gC gL El.flat
    rw [List.flatMap_map]
    induction List.range M with
    | nil => rfl
    | cons x l ih => rw [List.map_cons, List.flatMap_cons, ih]; rfl
  have vw : elI.View H (.sl id 0 1 false M (some M)) (gL G M) := .inr (.inr ⟨id, 0, some M, gC G M, false, by rw [gL_len]; rfl, by rw [gL_len]; simp, h.at_, by rw [gL_len, gC_len]; simp [elI], by
    rw [List.drop_zero, ← hv, List.take_of_length_le]
    rw [gC_len, gL_len]; simp [elI]⟩)
  have hne : gL G M ≠ [] := by intro e; have := congrArg List.length e; rw [gL_len] at this; simp at this; omega
  rw [vw.snap elI_flat (by intro e; cases e), El.lt_ne hne]

theorem l26_1_all {pg : Pg} {n m N : Nat} (hN : N = n * m) (hN6 : N ≤ 1000) : ∀ (r i : Nat) (H : Heap), i + r = N → Go.Proofs.Try.Dn.RowG H 0 N (fun t => if t < i then 1 else 0) →
    ∃ e H', den pg l26_1 [(0, .i .i64 (n : Int)), (1, .i .i64 (m : Int)), (5, .sl 0 0 1 false N (some N)), (6, .i .i64 (i : Int))] H = some ⟨.exit 0, (0, .i .i64 (n : Int)) :: (1, .i .i64 (m : Int)) :: (5, .sl 0 0 1 false N (some N)) :: e, H'⟩ ∧ Go.Proofs.Try.Dn.RowG H' 0 N (fun t => if t < N then 1 else 0)
  | 0, i, H, hi, h => by
    obtain rfl : i = N := by omega
    have wm : wrapR .i64 ((n : Int) * (m : Int)) = .i .i64 (i : Int) := by rw [hN, ← Int.natCast_mul]; exact gXd2 (by omega)
    refine ⟨[(6, .i .i64 (i : Int)), (15, .b false)], H, ?_, h⟩
    clear h hN
    generalize TV.sl 0 0 1 false i (some i) = O at *
    generalize (n : Int) = nn at *
    generalize (m : Int) = mm at *
    generalize (i : Int) = I at *
    rw [l26_1, den_loop]
    simp (disch := omega) [b26_0, gX0, gX1, gX2, gX3, gX4, gX5, gX6, gX7, gX8, gX9, gXa, gXb, gXc, gXd, gXe, gXf, gXg, gXh, gXi, gXj, gXk, gXl, gXm, gXn, gXo, gXp, gXq, gXr, gXs, gXt, gXu, gXv, gXw, gXx, k_mv, gXy, gXz, gX01, gX11, gX21, gX31, gX41, gX51, gX61, gX71, gX81, gX91, gXa1, gXb1, gXc1, gXd1, gXe1, gXf1, gXg1, gXh1, gXi1, gXj1, gXk1, gXl1, gXm1, gXn1, gXo1, gXp1, gXq1, gXr1, gXs1, gXt1, gXu1, k_mn, k_mx, gXv1, gXw1, gXx1, gXy1, gXz1, gX02, gX12, gX22, gX32, gX42, gX52, gX62, gX72, Dn.setLast, Dn.getLast, evalO, mapO, Dn.get, putE, gX82, gX92, gXa2, gXb2, TV.one, TV.isAgg, Dn.part, gXc2, negb, at0, at1, at2, at3, at4, dT, dF, gXd2, Option.bind_some, Option.map_some, wm]
  | r + 1, i, H, hi, h => by
    have wm : wrapR .i64 ((n : Int) * (m : Int)) = .i .i64 (N : Int) := by rw [hN, ← Int.natCast_mul]; exact gXd2 (by omega)
    have ix := Go.Proofs.Try.Dn.RowG.ix (pg := pg) H 0 (M := N) (t := i) (by omega)
    obtain ⟨H1, s1, s2, s3, s4⟩ := h.st (pg := pg) (t := i) (by omega) 1
    have hG : (fun u => if u = i then 1 else if u < i then 1 else 0) = fun u : Nat => if u < i + 1 then 1 else 0 := by
      funext u
      by_cases h1 : u = i
      · rw [if_pos h1, if_pos (by omega)]
      · rw [if_neg h1]
        by_cases h2 : u < i
        · rw [if_pos h2, if_pos (by omega)]
        · rw [if_neg h2, if_neg (by omega)]
    rw [hG] at s2
    obtain ⟨e, H', r1, r2⟩ := l26_1_all (pg := pg) hN hN6 r (i + 1) H1 (by omega) s2
    refine ⟨e, H', Eq.trans ?_ r1, r2⟩
    have w2 : wrapR .i64 ((i : Int) + 1) = .i .i64 ((i + 1 : Nat) : Int) := by rw [← Int.natCast_succ]; exact gXd2 (by omega)
    have dd : decide ((i : Int) < (N : Int)) = true := dT (by omega)
    simp only [Int.natCast_one] at s1
    clear h s2 hG r1 r2 hN
    generalize TV.sl 0 0 1 false N (some N) = O at *
    generalize TV.ref 0 i = RR at *
    generalize (n : Int) = nn at *
    generalize (m : Int) = mm at *
    generalize ((i + 1 : Nat) : Int) = I2 at *
    generalize (i : Int) = I at *
    generalize (N : Int) = N at *
    rw [l26_1, den_loop]
    simp (disch := omega) [l26_1, b26_0, gX0, gX1, gX2, gX3, gX4, gX5, gX6, gX7, gX8, gX9, gXa, gXb, gXc, gXd, gXe, gXf, gXg, gXh, gXi, gXj, gXk, gXl, gXm, gXn, gXo, gXp, gXq, gXr, gXs, gXt, gXu, gXv, gXw, gXx, k_mv, gXy, gXz, gX01, gX11, gX21, gX31, gX41, gX51, gX61, gX71, gX81, gX91, gXa1, gXb1, gXc1, gXd1, gXe1, gXf1, gXg1, gXh1, gXi1, gXj1, gXk1, gXl1, gXm1, gXn1, gXo1, gXp1, gXq1, gXr1, gXs1, gXt1, gXu1, k_mn, k_mx, gXv1, gXw1, gXx1, gXy1, gXz1, gX02, gX12, gX22, gX32, gX42, gX52, gX62, gX72, Dn.setLast, Dn.getLast, evalO, mapO, Dn.get, putE, gX82, gX92, gXa2, gXb2, TV.one, TV.isAgg, Dn.part, gXc2, negb, at0, at1, at2, at3, at4, dT, dF, gXd2, Option.bind_some, Option.map_some, wm, dd, ix, s1, w2]

theorem fn26 {pg : Pg} (hF : Free pg) {n m : Nat} (hn : 1 ≤ n ∧ n ≤ 8) (hm : 1 ≤ m ∧ m ≤ 8) : PFn pg 26 [.i .i64 (n : Int), .i .i64 (m : Int)] (LPv (evenL n m)) := by
  obtain ⟨N, hN⟩ : ∃ N, N = n * m := ⟨_, rfl⟩
  have hN1 : 1 ≤ N ∧ N ≤ 64 := by
    have h1 : 1 * 1 ≤ n * m := Nat.mul_le_mul hn.1 hm.1
    have h2 : n * m ≤ 8 * 8 := Nat.mul_le_mul hn.2 hm.2
    omega
  obtain ⟨H0, hH0⟩ : ∃ H0, H0 = ([AObj.cells (gC (fun t => if t < 0 then 1 else 0) N) false] : Heap) := ⟨_, rfl⟩
  have h0 : Go.Proofs.Try.Dn.RowG H0 0 N (fun t => if t < 0 then 1 else 0) := ⟨by rw [hH0]; rfl⟩
  have mk : dkc pg (den pg) (.mksl [.i .i64 0] false 8) [.i .i64 (N : Int), .i .i64 (N : Int)] [] = some (.sl 0 0 1 false N (some N), H0) := by
    show dk (.mksl [.i .i64 0] false 8) [.i .i64 (N : Int), .i .i64 (N : Int)] [] = _
    simp only [dk, bound, Int.natCast_nonneg, if_true, Option.bind_some, Int.toNat_natCast]
    rw [if_pos ⟨Nat.le_refl _, by omega, by omega⟩, hH0]
    congr 4
    simp only [repl, gC, Int.toNat_natCast]
    simp
    clear h0 hH0 hN hN1
    induction N with
    | zero => rfl
    | succ N ih => rw [List.range_succ, List.map_append, List.replicate_succ', ih]; simp
  obtain ⟨e, H1, r1, r2⟩ := l26_1_all (pg := pg) (n := n) (m := m) hN (by omega) N 0 H0 (by omega) h0
  have hg : gL (fun t => if t < N then 1 else 0) N = gL (fun _ => 1) N := by
    unfold gL
    refine List.map_congr_left fun t ht => ?_
    show (((if t < N then 1 else 0 : Nat)) : Int) = ((1 : Nat) : Int)
    rw [if_pos (List.mem_range.1 ht)]
  have sb := RowG.bor r2 hN1.1
  rw [hg] at sb
  have f59 := fn59 (pg := pg) hF (n := n) (m := m) (c := 0) (d := 0) (G := fun _ => 1) (M := N) (g0 := oneM N) hn hm (by omega) (by omega) (by omega) (fun j => by
    unfold oneM wtI
    split
    · rfl
    · rfl) (by unfold oneM; rw [if_pos (by omega)]; simp)
  have c59 := PFn.call f59 (args := [.i .i64 (n : Int), .i .i64 (m : Int), .i .i64 0, .i .i64 0, .sl 0 0 1 false N (some N)]) (ks := []) (fs := []) (cs := []) (H := H1) (by simp [snapArgs, sn_i, sb])
  have hev : canP (pairsP n m 0 0 (oneM N)) = evenL n m := by unfold evenL; rw [hN]
  rw [hev] at c59
  have sf : snap .fin H1 9 (LPv (evenL n m)) = some (LPv (evenL n m)) := snap_pairsF H1 5 (evenL n m)
  have wm : wrapR .i64 ((n : Int) * (m : Int)) = .i .i64 (N : Int) := by rw [hN, ← Int.natCast_mul]; exact gXd2 (by omega)
  refine .of1 (x := .ret) (e := [(4, LPv (evenL n m))]) (H' := H1) (hF.S _ _) (d := d26) (by rw [hF.F]; rfl) rfl ?_ (.inl rfl) rfl sf
  simp only [Int.natCast_zero] at r1
  clear sf hev f59 sb hg r2 h0 hH0 hN
  generalize TV.sl 0 0 1 false N (some N) = O at *
  generalize (n : Int) = nn at *
  generalize (m : Int) = mm at *
  generalize (N : Int) = N at *
  generalize LPv (evenL n m) = R at *
  simp (maxSteps := 1000000) (disch := omega) [d26, c26, zipE, gX0, gX1, gX2, gX3, gX4, gX5, gX6, gX7, gX8, gX9, gXa, gXb, gXc, gXd, gXe, gXf, gXg, gXh, gXi, gXj, gXk, gXl, gXm, gXn, gXo, gXp, gXq, gXr, gXs, gXt, gXu, gXv, gXw, gXx, k_mv, gXy, gXz, gX01, gX11, gX21, gX31, gX41, gX51, gX61, gX71, gX81, gX91, gXa1, gXb1, gXc1, gXd1, gXe1, gXf1, gXg1, gXh1, gXi1, gXj1, gXk1, gXl1, gXm1, gXn1, gXo1, gXp1, gXq1, gXr1, gXs1, gXt1, gXu1, k_mn, k_mx, gXv1, gXw1, gXx1, gXy1, gXz1, gX02, gX12, gX22, gX32, gX42, gX52, gX62, gX72, Dn.setLast, Dn.getLast, evalO, mapO, Dn.get, putE, gX82, gX92, gXa2, gXb2, TV.one, TV.isAgg, Dn.part, gXc2, negb, at0, at1, at2, at3, at4, dT, dF, gXd2, Option.bind_some, Option.map_some, wm, mk, go_denK (c := l26_1) rfl, r1, c59]

theorem even_short {n m : Nat} (hn : 1 ≤ n ∧ n ≤ 8) (hm : 1 ≤ m ∧ m ≤ 8) : Short (evenL n m) ∧ (evenL n m).length ≤ 1000000 := canP_short hn.2 hm.2 hn.1 hm.1

end Go.Proofs.Try.Dn

