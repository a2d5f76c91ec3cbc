/-
  Sums of two rows of dice together: the law of it.
-/
import Derived.Test.YtijeefncmgjlpaaT3
set_option linter.unusedSimpArgs false
set_option linter.unusedVariables false

set_option maxHeartbeats 1000000
namespace Go.Proofs.Try.Dn
open Go.Dn

theorem sum_swp {α β : Type} (g : α → β → Nat) (l : List α) : ∀ (m : List β), (m.map fun b => (l.map fun a => g a b).sum).sum = (l.map fun a => (m.map fun b => g a b).sum).sum
  | [] => by
    induction l with
    | nil => rfl
    | cons a l ih => simp only [List.map_cons, List.sum_cons, List.map_nil, List.sum_nil] at ih ⊢; omega
  | b :: m => by
    have ih := sum_swp g l m
    simp only [List.map_cons, List.sum_cons]
    rw [ih]
    clear ih
    induction l with
    | nil => rfl
    | cons a l ih => simp only [List.map_cons, List.sum_cons] at ih ⊢; omega

end Go.Proofs.Try.Dn

