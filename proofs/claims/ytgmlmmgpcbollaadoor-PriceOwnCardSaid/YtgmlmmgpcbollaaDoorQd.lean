/-
  PriceCosts: the whole run answers true.
-/
import Derived.Test.YtgmlmmgpcbollaaDoorQb
set_option linter.unusedSimpArgs false
set_option linter.unusedVariables false

namespace Go.Proofs.Tryd.Dn
open Go.Dn

theorem cut_id {X : List Obs} {g : Nat} (hm : Market X g) : X.map (cut 4) = X := by
  have : ∀ x ∈ X, cut 4 x = x := by
    intro x hx
    obtain ⟨a1, a2, _⟩ := okObs_iff.1 (hm.ok x hx)
    have := hm.g3
    unfold cut
    rw [List.take_of_length_le (by omega), List.take_of_length_le (by omega)]
  calc X.map (cut 4) = X.map id := List.map_congr_left this
    _ = X := by simp

/-- given, of observations -/
theorem call18m {pg : Pg} (hF : Free pg) {X : List Obs} {g : Nat} (hm : Market X g) (H : Heap) : callRun pg (den pg) (.pu []) [.fn 18 [] [], (elS false).lt false X] H = some ((elS false).lt false X, H) := by
  have := call18 hF (elS_RV false false X) (market_lens hm).1 H
  rwa [cut_id hm] at this

theorem costs_rows {X : List Obs} {g : Nat} (hm : Market X g) : (costs X).length ≤ 1000000 ∧ ∀ r ∈ costs X, r.length ≤ 1000000 := by
  have := hm.n5
  refine ⟨by rw [costs_len]; omega, fun r hr => ?_⟩
  obtain ⟨i, _, rfl⟩ := List.mem_map.1 hr
  simp [costRow]; omega
end Go.Proofs.Tryd.Dn

