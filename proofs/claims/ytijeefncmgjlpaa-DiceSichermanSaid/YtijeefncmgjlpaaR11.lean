/-
  Dice: sums of both: the law run.
-/
import Derived.Test.YtijeefncmgjlpaaR10
import Derived.Test.YtijeefncmgjlpaaT3
set_option linter.unusedSimpArgs false
set_option linter.unusedVariables false

set_option maxHeartbeats 4000000
set_option maxRecDepth 100000
namespace Go.Proofs.Try.Dn
open Go.Dn

theorem sumsL_mem {ls : List (List Int)} (hl : ls.length ≤ 6) (hD : ∀ d ∈ ls, DieL 60 d) {p : Int × Int} (hp : p ∈ sumsL ls) : 0 ≤ p.1 ∧ p.1 ≤ 360 ∧ p.2 = ((wn ls p.1 : Nat) : Int) ∧ wn ls p.1 ≠ 0 ∧ wn ls p.1 ≤ 262144 := by
  unfold sumsL sumsN at hp
  rw [List.mem_filterMap] at hp
  obtain ⟨s, hs, he⟩ := hp
  split at he
  · cases he
  · rename_i h0
    cases he
    have h1 := List.mem_range.1 hs
    have := wn_small hl (fun d hd => (hD d hd).le) ls.length (Nat.le_refl _) (s : Int)
    rw [List.take_length] at this
    exact ⟨by simp, by simp only; omega, rfl, h0, this⟩

end Go.Proofs.Try.Dn

