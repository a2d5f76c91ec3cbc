/-
  The reference's even dice.
-/
import Derived.Test.YtijeefncmgjlpaaT8
import Derived.Test.YtijeefncmgjlpaaEl
import Derived.Test.YtijeefncmgjlpaaEm
import Derived.Test.YtijeefncmgjlpaaT6
import Derived.Test.YtijeefncmgjlpaaEe
set_option linter.unusedSimpArgs false
set_option linter.unusedVariables false

set_option maxHeartbeats 4000000
set_option maxRecDepth 100000
namespace Go.Proofs.Try.Dn
open Go.Dn

theorem RowG.bor {H : Heap} {id M : Nat} {G : Nat -> Nat} (h : Go.Proofs.Try.Dn.RowG H id M G) (hM : 1 <= M) : snap .borrow H 9 (.sl id 0 1 false M (some M)) = some (elI.lt true (gL G M)) := by
 have hv : gC G M = elI.flat (gL G M) := by
  unfold gC gL El.flat
  rw [List.flatMap_map]
  induction List.range M with
  | nil => rfl
  | cons x l ih => rw [List.map_cons, List.flatMap_cons, ih]; rfl
 have vw : elI.View H (.sl id 0 1 false M (some M)) (gL G M) := .inr (.inr ⟨id, 0, some M, gC G M, false, by rw [gL_len]; rfl, by rw [gL_len]; simp, h.at_, by rw [gL_len, gC_len]; simp [elI], by
  rw [List.drop_zero, <- hv, List.take_of_length_le]
  rw [gC_len, gL_len]; simp [elI]⟩)
 have hne : gL G M ≠ [] := by intro e; have := congrArg List.length e; rw [gL_len] at this; simp at this; omega
 rw [vw.snap elI_flat (by intro e; cases e), El.lt_ne hne]

end Go.Proofs.Try.Dn

