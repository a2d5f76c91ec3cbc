/-
  The place of a number in a list.
-/
import Derived.Test.YtijeefncmgjlpaaU1
import Derived.Test.YtijeefncmgjlpaaEb
set_option linter.unusedSimpArgs false
set_option linter.unusedVariables false

set_option maxHeartbeats 2000000
set_option maxRecDepth 100000
namespace Go.Proofs.Try.Dn
open Go.Dn

theorem l91_1_all {pg : Pg} {l : List Int} {x : Int} {k : Nat} (hx : l[k]? = some x) (hf : ∀ j y, j < k → l[j]? = some y → y ≠ x) (hl : l.length ≤ 1000000) : ∀ (r j : Nat), j + r = k →
    den pg l91_1 [(0, elI.lt true l), (1, .i .i64 x), (7, .i .i64 (l.length : Int)), (8, .i .i64 (j : Int))] [] = some ⟨.ret, [(4, .i .i64 (k : Int))], []⟩
  | 0, j, hj => by
    obtain rfl : j = k := by omega
    have hlt := (List.getElem?_eq_some_iff.1 hx).1
    obtain ⟨p, p1, p2⟩ := ixIn (pg := pg) hx []
    have dd : decide ((j : Int) < (l.length : Int)) = true := dT (by omega)
    clear hf hl hx
    generalize elI.lt true l = L at *
    generalize (l.length : Int) = M at *
    generalize (j : Int) = J at *
    rw [l91_1, den_loop]
    simp (disch := omega) [l91_1, b91_0, gX0, gX1, gX2, gX3, gX4, gX5, gX6, gX7, gX8, gX9, gXa, gXb, gXc, gXd, gXe, gXf, gXg, gXh, gXi, gXj, gXk, gXl, gXm, gXn, gXo, gXp, gXq, gXr, gXs, gXt, gXu, gXv, gXw, gXx, k_mv, gXy, gXz, gX01, gX11, gX21, gX31, gX41, gX51, gX61, gX71, gX81, gX91, gXa1, gXb1, gXc1, gXd1, gXe1, gXf1, gXg1, gXh1, gXi1, gXj1, gXk1, gXl1, gXm1, gXn1, gXo1, gXp1, gXq1, gXr1, gXs1, gXt1, gXu1, k_mn, k_mx, gXv1, gXw1, gXx1, gXy1, gXz1, gX02, gX12, gX22, gX32, gX42, gX52, gX62, gX72, Dn.setLast, Dn.getLast, evalO, mapO, Dn.get, putE, gX82, gX92, gXa2, gXb2, TV.one, TV.isAgg, Dn.part, gXc2, negb, at0, at1, at2, at3, at4, dT, dF, gXd2, Option.bind_some, Option.map_some, dd, p1, p2]
  | r + 1, j, hj => by
    have hlt := (List.getElem?_eq_some_iff.1 hx).1
    obtain ⟨y, hy⟩ : ∃ y, l[j]? = some y := ⟨_, List.getElem?_eq_getElem (by omega)⟩
    have hne := hf j y (by omega) hy
    obtain ⟨p, p1, p2⟩ := ixIn (pg := pg) hy []
    have dd : decide ((j : Int) < (l.length : Int)) = true := dT (by omega)
    have w2 : wrapR .i64 ((j : Int) + 1) = .i .i64 ((j + 1 : Nat) : Int) := by rw [← Int.natCast_succ]; exact gXd2 (by omega)
    have ih := l91_1_all (pg := pg) hx hf hl r (j + 1) (by omega)
    have hne' : ¬ x = y := fun e => hne e.symm
    rw [← ih]
    clear ih hf hl hx hy hlt hne
    generalize elI.lt true l = L at *
    generalize (l.length : Int) = M at *
    generalize ((j + 1 : Nat) : Int) = J2 at *
    generalize (j : Int) = J at *
    conv => lhs; rw [l91_1, den_loop]
    simp (disch := omega) [l91_1, b91_0, gX0, gX1, gX2, gX3, gX4, gX5, gX6, gX7, gX8, gX9, gXa, gXb, gXc, gXd, gXe, gXf, gXg, gXh, gXi, gXj, gXk, gXl, gXm, gXn, gXo, gXp, gXq, gXr, gXs, gXt, gXu, gXv, gXw, gXx, k_mv, gXy, gXz, gX01, gX11, gX21, gX31, gX41, gX51, gX61, gX71, gX81, gX91, gXa1, gXb1, gXc1, gXd1, gXe1, gXf1, gXg1, gXh1, gXi1, gXj1, gXk1, gXl1, gXm1, gXn1, gXo1, gXp1, gXq1, gXr1, gXs1, gXt1, gXu1, k_mn, k_mx, gXv1, gXw1, gXx1, gXy1, gXz1, gX02, gX12, gX22, gX32, gX42, gX52, gX62, gX72, Dn.setLast, Dn.getLast, evalO, mapO, Dn.get, putE, gX82, gX92, gXa2, gXb2, TV.one, TV.isAgg, Dn.part, gXc2, negb, at0, at1, at2, at3, at4, dT, dF, gXd2, Option.bind_some, Option.map_some, dd, p1, p2, hne', w2]

theorem fn91 {pg : Pg} (hF : Free pg) {l : List Int} {x : Int} {k : Nat} (hx : l[k]? = some x) (hf : ∀ j y, j < k → l[j]? = some y → y ≠ x) (hl : l.length ≤ 1000000) : PFn pg 91 [elI.lt true l, .i .i64 x] (.i .i64 (k : Int)) := by
  have q := l91_1_all (pg := pg) hx hf hl k 0 (by omega)
  have ln := lnB elI true l
  refine .of1 (x := .ret) (e := [(4, .i .i64 (k : Int))]) (H' := []) (hF.S _ _) (d := d91) (by rw [hF.F]; rfl) rfl ?_ (.inl rfl) rfl (by simp [sn_i, sn_b, gXe2, gXf2, gXg2, gXh2, gXi2, gXj2, gXk2, gXl2, gXm2, gXn2, gXo2, gXp2, mapO, elems])
  simp only [Int.natCast_zero] at q
  clear hx hf
  generalize elI.lt true l = L at *
  generalize (l.length : Int) = M at *
  generalize (k : Int) = K at *
  simp (disch := omega) [d91, c91, zipE, gX0, gX1, gX2, gX3, gX4, gX5, gX6, gX7, gX8, gX9, gXa, gXb, gXc, gXd, gXe, gXf, gXg, gXh, gXi, gXj, gXk, gXl, gXm, gXn, gXo, gXp, gXq, gXr, gXs, gXt, gXu, gXv, gXw, gXx, k_mv, gXy, gXz, gX01, gX11, gX21, gX31, gX41, gX51, gX61, gX71, gX81, gX91, gXa1, gXb1, gXc1, gXd1, gXe1, gXf1, gXg1, gXh1, gXi1, gXj1, gXk1, gXl1, gXm1, gXn1, gXo1, gXp1, gXq1, gXr1, gXs1, gXt1, gXu1, k_mn, k_mx, gXv1, gXw1, gXx1, gXy1, gXz1, gX02, gX12, gX22, gX32, gX42, gX52, gX62, gX72, Dn.setLast, Dn.getLast, evalO, mapO, Dn.get, putE, gX82, gX92, gXa2, gXb2, TV.one, TV.isAgg, Dn.part, gXc2, negb, at0, at1, at2, at3, at4, dT, dF, gXd2, Option.bind_some, Option.map_some, ln, go_denK (c := l91_1) rfl, q]

end Go.Proofs.Try.Dn

/-
  Dice: a slice turned round in place.
-/

namespace Go.Proofs.Try.Dn
open Go.Dn

end Go.Proofs.Try.Dn

