/-
  The value of a bundle: the program's.
-/
import Derived.Test.YtgmlmmgpcbollaaDoorQv
set_option linter.unusedSimpArgs false
set_option linter.unusedVariables false

namespace Go.Proofs.Tryd.Dn
open Go.Dn

theorem prices_ok {X : List Obs} {g : Nat} (hm : Market X g) {i : Nat} (hi : i < X.length) : (X.getD i ([], [])).1.length = g ∧ (X.getD i ([], [])).2.length = g ∧ (∀ p ∈ (X.getD i ([], [])).1, 1 ≤ p ∧ p ≤ 20) ∧ ∀ p ∈ (X.getD i ([], [])).2, 0 ≤ p ∧ p ≤ 20 := by
  have h := getD_obs hi
  obtain ⟨a1, a2, a3, a4, _⟩ := okObs_iff.1 (hm.ok _ (List.mem_of_getElem? h))
  exact ⟨a1, a2, a3, a4⟩

/-- the least of some values -/
def least (l : List Int) : Int := minL l.tail (l.headD 0)

end Go.Proofs.Tryd.Dn

/-
  PriceAfriat: the whole run answers true.
-/

namespace Go.Proofs.Tryd.Dn
open Go.Dn

end Go.Proofs.Tryd.Dn

