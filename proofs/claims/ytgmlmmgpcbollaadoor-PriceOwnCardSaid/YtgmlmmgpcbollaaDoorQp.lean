/-
  Shares and rings; sets without a ring, in plain terms.
-/
import Derived.Test.YtgmlmmgpcbollaaDoorQo
set_option linter.unusedSimpArgs false
set_option linter.unusedVariables false

namespace Go.Proofs.Tryd.Dn
open Go.Dn

theorem Rch.head {E : Nat → Nat → Bool} {a c : Nat} (h : Rch E a c) (hne : a ≠ c) : ∃ b, E a b = true ∧ Rch E b c := by
  induction h with
  | here => exact absurd rfl hne
  | @step x y hx he ih =>
    by_cases hax : a = x
    · subst hax; exact ⟨y, he, .here⟩
    · obtain ⟨b, h1, h2⟩ := ih hax
      exact ⟨b, h1, .step h2 he⟩

/-! sets -/

theorem sub_length : ∀ {a b : List Nat}, a.Nodup → (∀ x ∈ a, x ∈ b) → a.length ≤ b.length
  | [], b, _, _ => Nat.zero_le _
  | x :: a, b, h, hs => by
    rw [List.nodup_cons] at h
    have hx := hs x (by simp)
    have := sub_length (a := a) (b := b.erase x) h.2 fun y hy => by
      have hne : y ≠ x := by rintro rfl; exact h.1 hy
      exact (List.mem_erase_of_ne hne).2 (hs y (by simp [hy]))
    rw [List.length_erase_of_mem hx] at this
    have : 0 < b.length := List.length_pos_of_mem hx
    simp only [List.length_cons]
    omega

theorem full_bits : ((List.range 6).all fun n => (List.range (2 ^ n)).all fun t => (bitsOf t).length != n || t == 2 ^ n - 1) = true := by decide
end Go.Proofs.Tryd.Dn

/-
  PriceNearly: the loops.
-/

namespace Go.Proofs.Tryd.Dn
open Go.Dn

end Go.Proofs.Tryd.Dn

