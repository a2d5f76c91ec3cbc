/-
  Dice: Apart, Min, Max, Fair.
-/
import Derived.Test.YtijeefncmgjlpaaV5
import Derived.Test.YtijeefncmgjlpaaV8
import Derived.Test.YtijeefncmgjlpaaVB
import Derived.Test.YtijeefncmgjlpaaR13
set_option linter.unusedSimpArgs false
set_option linter.unusedVariables false

set_option maxHeartbeats 4000000
set_option maxRecDepth 100000
namespace Go.Proofs.Try.Dn
open Go.Dn

/-! ### Apart -/
theorem cEq_pos {x : Int} {b : List Int} : cEq x b = 0 ↔ x ∉ b := by
  unfold cEq
  rw [List.countP_eq_zero]
  constructor
  · intro h hx; have := h x hx; simp at this
  · intro h y hy; simp; intro e; exact h (by rw [e]; exact hy)

theorem same_zero {a b : List Int} : same a b = 0 ↔ ∀ x ∈ a, x ∉ b := by
  unfold same
  constructor
  · intro h x hx
    have h1 : cEq x b ∈ a.map fun x => cEq x b := List.mem_map.2 ⟨x, hx, rfl⟩
    have := le_sum h1
    exact cEq_pos.1 (by omega)
  · intro h
    exact sum_zero _ _ fun x hx => cEq_pos.2 (h x hx)

/-! ### Min and Max -/
theorem ordN_ne {ls : List (List Int)} (h : ls.length ≤ 4) : ordN ls ≠ [] ∧ (ordN ls).length ≤ 24 := by
  have hp : ∀ n, n ≤ 4 → perms n n [] ≠ [] ∧ (perms n n []).length ≤ 24 := by
    intro n hn
    match n, hn with
    | 0, _ => exact ⟨by decide, by decide⟩
    | 1, _ => exact ⟨by decide, by decide⟩
    | 2, _ => exact ⟨by decide, by decide⟩
    | 3, _ => exact ⟨by decide, by decide⟩
    | 4, _ => exact ⟨by decide +kernel, by decide +kernel⟩
  unfold ordN
  have := hp ls.length h
  exact ⟨by simpa using this.1, by rw [List.length_map]; exact this.2⟩

end Go.Proofs.Try.Dn

