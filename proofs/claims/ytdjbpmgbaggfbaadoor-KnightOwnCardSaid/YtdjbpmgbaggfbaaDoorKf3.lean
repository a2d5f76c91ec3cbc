/-
  Knight: levels and walks.
-/
import Derived.Test.YtdjbpmgbaggfbaaDoorKf2
import Derived.Test.YtdjbpmgbaggfbaaDoorKe
set_option linter.unusedSimpArgs false
set_option linter.unusedVariables false

namespace Go.Proofs.Tryd.Dn
open Go.Dn

theorem orAll_bit {r c : Nat} (t : Nat) : ∀ (l : List Nat) (m : Nat), (orAll r c m l).testBit t = (m.testBit t || l.any fun s => (mv r c s).testBit t)
  | [], m => by simp [orAll]
  | k :: l, m => by
    have := orAll_bit (r := r) (c := c) t l (m ||| mv r c k)
    show (orAll r c (m ||| mv r c k) l).testBit t = _
    rw [this, Nat.testBit_or, List.any_cons, Bool.or_assoc]

theorem around_bit {r c x t : Nat} (h : Brd r c) (hx : x < 2 ^ (r * c)) (ht : t < r * c) : (around r c x).testBit t = true ↔ ∃ s, x.testBit s = true ∧ s < r * c ∧ near c s t = true := by
  unfold around
  rw [orAll_bit, Nat.zero_testBit, Bool.false_or, List.any_eq_true]
  constructor
  · rintro ⟨s, hs, hb⟩
    have hsr := mem64_in hx hs
    unfold mem64 at hs
    rw [List.mem_filter] at hs
    exact ⟨s, hs.2, hsr, by rw [← mv_near h hsr ht]; exact hb⟩
  · rintro ⟨s, hs, hsr, hb⟩
    have hn := h.n36
    exact ⟨s, by unfold mem64; rw [List.mem_filter, List.mem_range]; exact ⟨by omega, hs⟩, by rw [mv_near h hsr ht]; exact hb⟩

theorem lv64 {r c : Nat} (h : Brd r c) : 2 ^ (r * c) ≤ 18446744073709551616 := by
  have hn := h.n36
  have := Nat.pow_le_pow_right (n := 2) (by decide) (show r * c ≤ 64 by omega)
  omega

end Go.Proofs.Tryd.Dn

/-
  Knight: the number of walks is the same both ways.
-/

namespace Go.Proofs.Tryd.Dn
open Go.Dn

def sm : Nat → (Nat → Nat) → Nat
  | 0, _ => 0
  | n + 1, f => sm n f + f n

end Go.Proofs.Tryd.Dn

/-
  Knight: the walks of one more step, over the moves of the last square.
-/

namespace Go.Proofs.Tryd.Dn
open Go.Dn

theorem moves_in {r c b s : Nat} (h : Brd r c) (hb : b < r * c) (hs : s ∈ movesOf r c b) : s < r * c := mem64_in (mv_bound h hb) hs

end Go.Proofs.Tryd.Dn

/-
  Knight: the law of steps: the sum over the moves.
-/

namespace Go.Proofs.Tryd.Dn
open Go.Dn

end Go.Proofs.Tryd.Dn

