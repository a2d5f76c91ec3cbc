/-
  Knight: the laws of quiet knights, run.
-/
import Derived.Test.YtdjbpmgbaggfbaaDoorKfh
import Derived.Test.YtdjbpmgbaggfbaaDoorKe
set_option linter.unusedSimpArgs false
set_option linter.unusedVariables false

namespace Go.Proofs.Tryd.Dn
open Go.Dn

theorem quiet_facts {r c : Nat} (h : Brd r c) : quietB r c (quietS r c) = true ∧ pop 64 (quietS r c) + pairN r c (colM r c 0) (colM r c 1) = r * c ∧ (pairsOf r c).length = pairN r c (colM r c 0) (colM r c 1) ∧ pairOk r c (pairsOf r c) = true ∧ (r < 3 ∨ c < 3 ∨ pop 64 (quietS r c) = (r * c + 1) / 2) := by
  have := h.ok quiet_ev
  unfold quietOk at this
  simp only [Bool.and_eq_true, Bool.or_eq_true, decide_eq_true_eq] at this
  obtain ⟨⟨⟨⟨a1, a2⟩, a3⟩, a4⟩, a5⟩ := this
  refine ⟨a1, a2, a3, a4, ?_⟩
  rcases a5 with (a5 | a5) | a5
  · exact .inl a5
  · exact .inr (.inl a5)
  · exact .inr (.inr a5)

end Go.Proofs.Tryd.Dn

