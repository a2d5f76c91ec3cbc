/-
  Peg: results whose rows become the caller's own, and are written over.
-/
import Derived.Test.YtegihfgibonhpaaPj
import Derived.Test.YtegihfgibonhpaaPi
import Derived.Test.YtegihfgibonhpaaPg2
set_option linter.unusedSimpArgs false
set_option linter.unusedVariables false

namespace Go.Proofs.Try.Dn
open Go.Dn

end Go.Proofs.Try.Dn

/-
  Peg: results are new memory, and no function changes its arguments: the law run.
-/

set_option maxHeartbeats 4000000
set_option maxRecDepth 100000
namespace Go.Proofs.Try.Dn
open Go.Dn

theorem exJ {n : Int} {l : List Line} (hc : chk n l = 0) (p : Nat) : ∃ J : List Line, (∀ z, z ∈ J ↔ z ∈ js l ∧ can p z = true) ∧ J.length ≤ 80 ∧ Sor J := by
  obtain ⟨hn1, hn2, hl, hf⟩ := chk_ok hc
  have hnd := (chk_sor hc).filter (fun z => can p z)
  refine ⟨((js l).filter fun z => can p z).mergeSort (fun a b => decide (a = b) || lt3 a b), fun z => ?_, ?_, ?_⟩
  · rw [List.mem_mergeSort, List.mem_filter]
  · rw [List.length_mergeSort]
    have h1 := List.length_filter_le (fun z => can p z) (js l)
    have h2 := js_len l
    omega
  · have hp := List.pairwise_mergeSort (le := fun a b => decide (a = b) || lt3 a b) (fun a b c h1 h2 => by
      simp only [Bool.or_eq_true, decide_eq_true_eq] at h1 h2 ⊢
      rcases h1 with rfl | h1
      · exact h2
      · rcases h2 with rfl | h2
        · exact .inr h1
        · exact .inr (sr3_trans h1 h2)) (fun a b => by
      simp only [Bool.or_eq_true, decide_eq_true_eq]
      by_cases e : a = b
      · exact .inl (.inl e)
      · cases h : lt3 a b with
        | true => exact .inl (.inr rfl)
        | false => exact .inr (.inr (sr3_total h e))) ((js l).filter fun z => can p z)
    have hn : (((js l).filter fun z => can p z).mergeSort (fun a b => decide (a = b) || lt3 a b)).Nodup := (List.mergeSort_perm _ _).nodup_iff.2 hnd
    unfold Sor
    refine (hp.and hn).imp ?_
    intro a b ⟨h1, h2⟩
    simp only [Bool.or_eq_true, decide_eq_true_eq] at h1
    exact h1.resolve_left h2

end Go.Proofs.Try.Dn

