/-
  Counting pegs: the reference's Size and OnesCount.
-/
import Derived.Test.YtegihfgibonhpaaPg
set_option linter.unusedSimpArgs false
set_option linter.unusedVariables false

namespace Go.Proofs.Try.Dn
open Go.Dn

end Go.Proofs.Try.Dn

/-
  PegReached: sizes, lists compared, the least number of pegs.
-/

namespace Go.Proofs.Try.Dn
open Go.Dn

theorem l26_all {pg : Pg} {A B : TV} {l : List Int} (hA : ∀ H, elI.View H A l) (hB : ∀ H, elI.View H B l) (hl : l.length ≤ 1000000) : ∀ (f i : Nat) (H : Heap), i + f = l.length →
    den pg l26_1 [(0, A), (1, B), (5, .i .i64 (i : Int))] H = some ⟨.exit 0, [(0, A), (1, B), (5, .i .i64 (l.length : Int)), (14, .b false)], H⟩
  | 0, i, H, h => by
    obtain rfl : i = l.length := by omega
    have hlen := fun H H' => (hA H).lenK H'
    rw [l26_1, den_loop]
    simp [b26_0, gX0, gX1, gX2, gX3, gX4, gX5, gX6, gX7, gX8, gX9, gXa, gXb, gXc, gXd, gXe, gXf, gXg, gXh, gXi, gXj, gXk, gXl, gXm, gXn, gXo, gXp, gXq, gXr, gXs, gXt, gXu, gXv, gXw, gXx, k_mv, gXy, gXz, gX01, gX11, gX21, gX31, gX41, gX51, gX61, gX71, gX81, gX91, gXa1, gXb1, gXc1, gXd1, gXe1, gXf1, gXg1, gXh1, gXi1, gXj1, gXk1, gXl1, gXm1, gXn1, gXo1, gXp1, gXq1, gXr1, gXs1, gXt1, gXu1, k_mn, k_mx, gXv1, gXw1, gXx1, gXy1, gXz1, gX02, gX12, gX22, gX32, gX42, gX52, gX62, gX72, Dn.setLast, Dn.getLast, evalO, mapO, Dn.get, putE, keepE, TV.one, TV.isAgg, Dn.part, hlen []]
  | f + 1, i, H, h => by
    have hi : i < l.length := by omega
    have e1 : ((i : Int) < (l.length : Int)) := by omega
    have e2 : wrapR .i64 ((i : Int) + 1) = .i .i64 ((i : Int) + 1) := gX82 (by omega)
    have hlen := fun H H' => (hA H).lenK H'
    obtain ⟨p, hp, hv⟩ := ixI (pg := pg) (R := den pg) (hA H) (List.getElem?_eq_getElem hi)
    obtain ⟨q, hq, hw⟩ := ixI (pg := pg) (R := den pg) (hB H) (List.getElem?_eq_getElem hi)
    refine Eq.trans ?_ (l26_all (pg := pg) hA hB hl f (i + 1) H (by omega))
    rw [l26_1, den_loop]
    simp [l26_1, b26_0, gX0, gX1, gX2, gX3, gX4, gX5, gX6, gX7, gX8, gX9, gXa, gXb, gXc, gXd, gXe, gXf, gXg, gXh, gXi, gXj, gXk, gXl, gXm, gXn, gXo, gXp, gXq, gXr, gXs, gXt, gXu, gXv, gXw, gXx, k_mv, gXy, gXz, gX01, gX11, gX21, gX31, gX41, gX51, gX61, gX71, gX81, gX91, gXa1, gXb1, gXc1, gXd1, gXe1, gXf1, gXg1, gXh1, gXi1, gXj1, gXk1, gXl1, gXm1, gXn1, gXo1, gXp1, gXq1, gXr1, gXs1, gXt1, gXu1, k_mn, k_mx, gXv1, gXw1, gXx1, gXy1, gXz1, gX02, gX12, gX22, gX32, gX42, gX52, gX62, gX72, Dn.setLast, Dn.getLast, evalO, mapO, Dn.get, putE, keepE, TV.one, TV.isAgg, Dn.part, hlen [], e1, e2, hp, hv, hq, hw]

theorem fn26 {pg : Pg} (hF : Free pg) {A B : TV} {l : List Int} (hA : ∀ H, elI.View H A l) (hB : ∀ H, elI.View H B l) (hl : l.length ≤ 1000000) : Fn pg 26 [A, B] (.b true) := by
  have h1 := l26_all (pg := pg) hA hB hl l.length 0 [] (by omega)
  simp only [Int.natCast_zero] at h1
  have hlA := fun H H' => (hA H).lenK H'
  have hlB := fun H H' => (hB H).lenK H'
  refine .of1 (x := .ret) (e := [(4, .b true)]) (H' := []) (hF.S _ _ (by decide)) (d := d26) (by rw [hF.F]; rfl) rfl ?_ (.inl rfl) rfl (by simp [sn_i, sn_b, gX92, gXa2, gXb2, gXc2, gXd2, gXe2, gXf2, gXg2, gXh2, gXi2, gXj2, gXk2, mapO, elems])
  simp [d26, c26, zipE, gX0, gX1, gX2, gX3, gX4, gX5, gX6, gX7, gX8, gX9, gXa, gXb, gXc, gXd, gXe, gXf, gXg, gXh, gXi, gXj, gXk, gXl, gXm, gXn, gXo, gXp, gXq, gXr, gXs, gXt, gXu, gXv, gXw, gXx, k_mv, gXy, gXz, gX01, gX11, gX21, gX31, gX41, gX51, gX61, gX71, gX81, gX91, gXa1, gXb1, gXc1, gXd1, gXe1, gXf1, gXg1, gXh1, gXi1, gXj1, gXk1, gXl1, gXm1, gXn1, gXo1, gXp1, gXq1, gXr1, gXs1, gXt1, gXu1, k_mn, k_mx, gXv1, gXw1, gXx1, gXy1, gXz1, gX02, gX12, gX22, gX32, gX42, gX52, gX62, gX72, Dn.setLast, Dn.getLast, evalO, mapO, Dn.get, putE, keepE, TV.one, TV.isAgg, Dn.part, hlA [], hlB [], go_denK (c := l26_1) rfl, h1]

end Go.Proofs.Try.Dn

/-
  PegReached: the whole run answers true.
-/

namespace Go.Proofs.Try.Dn
open Go.Dn

end Go.Proofs.Try.Dn

