/-
  The reference's costs and tastes.
-/
import Derived.Test.YtgmlmmgpcbollaaDoorQa
import Derived.Test.YtgmlmmgpcbollaaDoorDd
set_option linter.unusedSimpArgs false
set_option linter.unusedVariables false

namespace Go.Proofs.Tryd.Dn
open Go.Dn

end Go.Proofs.Tryd.Dn

/-
  The reference's table of tastes; tables compared.
-/

namespace Go.Proofs.Tryd.Dn
open Go.Dn

/-! lists and tables compared: the same ones -/

end Go.Proofs.Tryd.Dn

/-
  The program's costs and tastes.
-/

namespace Go.Proofs.Tryd.Dn
open Go.Dn

end Go.Proofs.Tryd.Dn

/-
  tame makes observations: one number of each.
-/

namespace Go.Proofs.Tryd.Dn
open Go.Dn

def bFix (g k : Nat) (so b : Int) : Int := if k + 1 = g ∧ so = 0 then 1 else b

end Go.Proofs.Tryd.Dn

/-
  tame makes observations.
-/

namespace Go.Proofs.Tryd.Dn
open Go.Dn

/-- what is known of a half-made observation -/
structure Half (g k : Nat) (so : Int) (ps bs : List Int) : Prop where
  lp : ps.length = k
  lb : bs.length = k
  rp : ∀ p ∈ ps, 1 ≤ p ∧ p ≤ 20
  rb : ∀ p ∈ bs, 0 ≤ p ∧ p ≤ 20
  s0 : 0 ≤ so ∧ so ≤ 20 * (k : Int)
  s1 : 0 < so → ∃ p ∈ bs, 0 < p
  s2 : k = g → ∃ p ∈ bs, 0 < p

theorem Half.step {g k : Nat} {so p b : Int} {ps bs : List Int} (h : Half g k so ps bs) (hk : k < g) (hp : 1 ≤ p ∧ p ≤ 20) (hb : 0 ≤ b ∧ b ≤ 20) : Half g (k + 1) (so + b) (ps ++ [p]) (bs ++ [bFix g k (so + b) b]) := by
  have hs := h.s0
  have hf : 0 ≤ bFix g k (so + b) b ∧ bFix g k (so + b) b ≤ 20 := by unfold bFix; split <;> omega
  have h1 : 0 < so + b → ∃ p ∈ bs ++ [bFix g k (so + b) b], 0 < p := by
    intro hpos
    by_cases hso : 0 < so
    · obtain ⟨q, hq, h0⟩ := h.s1 hso
      exact ⟨q, by simp [hq], h0⟩
    · refine ⟨bFix g k (so + b) b, by simp, ?_⟩
      unfold bFix
      rw [if_neg (by omega)]
      omega
  refine ⟨by simp [h.lp], by simp [h.lb], ?_, ?_, by omega, h1, ?_⟩
  · intro q hq
    rcases List.mem_append.1 hq with hq | hq
    · exact h.rp q hq
    · simp at hq; subst hq; exact hp
  · intro q hq
    rcases List.mem_append.1 hq with hq | hq
    · exact h.rb q hq
    · simp at hq; subst hq; exact hf
  · intro hkg
    by_cases hpos : 0 < so + b
    · exact h1 hpos
    · refine ⟨bFix g k (so + b) b, by simp, ?_⟩
      unfold bFix
      rw [if_pos ⟨hkg, by omega⟩]
      omega

end Go.Proofs.Tryd.Dn

