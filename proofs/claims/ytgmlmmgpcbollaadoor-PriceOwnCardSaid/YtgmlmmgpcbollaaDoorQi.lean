/-
  Shares in lowest terms; both indices.
-/
import Derived.Test.YtgmlmmgpcbollaaDoorQh
set_option linter.unusedSimpArgs false
set_option linter.unusedVariables false

namespace Go.Proofs.Tryd.Dn
open Go.Dn

theorem Market.pos {X : List Obs} {g : Nat} (h : Market X g) {i k : Nat} (hi : i < X.length) (hk : k < X.length) : 1 ≤ costOf X i k := by
  obtain ⟨a1, a2, a3, a4, a5⟩ := okObs_iff.1 (h.ok X[i] (List.getElem_mem hi))
  obtain ⟨b1, b2, b3, b4, b5⟩ := okObs_iff.1 (h.ok X[k] (List.getElem_mem hk))
  simp only [costOf, List.getElem?_eq_getElem hi, List.getElem?_eq_getElem hk, Option.map_some, Option.getD_some]
  exact dot_pos a1 b2 a3 b4 b5

theorem rem_nat {x y : Nat} (hy : 0 < y) : binI .rem (.i .i64 (x : Int)) (.i .i64 (y : Int)) = some (.i .i64 ((x % y : Nat) : Int)) := by
  rw [b_rem, if_neg (by omega), Int.tmod_eq_emod_of_nonneg (by omega)]
  simp
end Go.Proofs.Tryd.Dn

/-
  Both indices, and which of two is better.
-/

namespace Go.Proofs.Tryd.Dn
open Go.Dn

theorem snZ (X : List Obs) (H : Heap) : Dn.snap .borrow H 9 ((elS false).lt false X) = some ((elS true).lt true X) := snap_pairs false false H 5 X

theorem st2 {pg : Pg} {R : Rec} (H : Heap) (a b c d : Int) : dkc pg R (.st 2) [.ref H.length 0, .agg [.i .i64 c, .i .i64 d]] (H ++ [.cells [.i .i64 a, .i .i64 b] true]) = some (.undef, H ++ [.cells [.i .i64 c, .i .i64 d] true]) := by
  rw [k_stA, Dn.getLast, stC_some, if_pos ⟨rfl, rfl, by simp⟩, Dn.setLast]; rfl

theorem tE_lt {n : Nat} {P : Nat → Nat → Int} : ∀ i k, tE n P i k = true → k < n := by
  intro i k h
  simp only [tE, Bool.and_eq_true, decide_eq_true_eq] at h
  exact h.1.2

/-! the reference's -/

end Go.Proofs.Tryd.Dn

/-
  PriceIndices: the whole run answers true.
-/

namespace Go.Proofs.Tryd.Dn
open Go.Dn

end Go.Proofs.Tryd.Dn

