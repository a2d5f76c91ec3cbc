/-
  The reference's ways of all sums, walked.
-/
import Derived.Test.YtijeefncmgjlpaaT3
set_option linter.unusedSimpArgs false
set_option linter.unusedVariables false

set_option maxHeartbeats 1000000
namespace Go.Proofs.Try.Dn
open Go.Dn

def mxS (ls : List (List Int)) : Nat := 1 + (ls.map fun d => (d.getLastD 0).toNat).sum

theorem mxS_snoc (ls : List (List Int)) (d : List Int) : mxS (ls ++ [d]) = mxS ls + (d.getLastD 0).toNat := by
  unfold mxS; rw [List.map_append, List.sum_append]; simp; omega

theorem die_last {d : List Int} (hD : DieL 60 d) : ∃ z, d[d.length - 1]? = some z ∧ d.getLastD 0 = z ∧ 0 ≤ z ∧ z ≤ 60 ∧ ∀ f ∈ d, f ≤ z := by
  have hp := hD.pos
  obtain ⟨z, hz⟩ : ∃ z, d[d.length - 1]? = some z := ⟨_, List.getElem?_eq_getElem (by omega)⟩
  have hb := hD.ok z (List.mem_of_getElem? hz)
  refine ⟨z, hz, getLastD_at hz, hb.1, hb.2, fun f hf => ?_⟩
  obtain ⟨j, hj, rfl⟩ := List.getElem_of_mem hf
  exact srt_at hD.srt (show j ≤ d.length - 1 by omega) (List.getElem?_eq_getElem hj) hz

theorem wn_mx {ls : List (List Int)} (hD : ∀ d ∈ ls, DieL 60 d) : ∀ i, i ≤ ls.length → ∀ j, wn (ls.take i) j ≠ 0 → 0 ≤ j ∧ j < (mxS (ls.take i) : Int) := by
  intro i
  induction i with
  | zero =>
    intro _ j hj
    rw [List.take_zero] at hj ⊢
    have : wn0 j ≠ 0 := hj
    unfold wn0 at this
    split at this
    · simp [mxS]; omega
    · exact absurd rfl this
  | succ i ih =>
    intro hi j hj
    have e : ls.take (i + 1) = ls.take i ++ [ls[i]] := by rw [List.take_add_one, List.getElem?_eq_getElem (by omega)]; rfl
    rw [e] at hj ⊢
    rw [wn_snoc] at hj
    rw [mxS_snoc]
    obtain ⟨f, hf, h0⟩ := wnF_ne.1 hj
    have h1 := ih (by omega) _ h0
    have hDi := hD ls[i] (List.getElem_mem (by omega))
    obtain ⟨z, _, h3, h4, _, h5⟩ := die_last hDi
    rw [h3]
    have h6 := h5 f hf
    have h7 := (hDi.ok f hf).1
    omega

end Go.Proofs.Try.Dn

