/-
  Dice: the same sums: the law run.
-/
import Derived.Test.YtijeefncmgjlpaaR10
import Derived.Test.YtijeefncmgjlpaaT7
set_option linter.unusedSimpArgs false
set_option linter.unusedVariables false

set_option maxHeartbeats 4000000
set_option maxRecDepth 100000
namespace Go.Proofs.Try.Dn
open Go.Dn

/-! ## the plain law -/

theorem wnF_comm (G : Int → Nat) (a b : List Int) : wnF (wnF G a) b = wnF (wnF G b) a := by
  funext j
  unfold wnF
  rw [sum_swp]
  refine congrArg List.sum (List.map_congr_left fun f _ => congrArg List.sum (List.map_congr_left fun g _ => ?_))
  rw [show j - g - f = j - f - g by omega]

theorem wn_perm {xs ys : List (List Int)} (h : xs.Perm ys) : wn xs = wn ys := by
  unfold wn
  exact h.foldl_eq' (fun a _ b _ z => wnF_comm z a b) _

theorem wn_top : ∀ (n : Nat) {ls : List (List Int)}, ls.length = n → (∀ d ∈ ls, DieL 60 d) → wn ls ((mxS ls : Int) - 1) ≠ 0
  | 0, ls, hn, _ => by
    obtain rfl : ls = [] := List.eq_nil_of_length_eq_zero hn
    decide
  | n + 1, ls, hn, hD => by
    have hne : ls ≠ [] := by intro e; rw [e] at hn; simp at hn
    obtain ⟨zs, d, rfl⟩ : ∃ zs d, ls = zs ++ [d] := ⟨ls.dropLast, ls.getLast hne, (List.dropLast_concat_getLast hne).symm⟩
    have ih := wn_top n (ls := zs) (by simpa using hn) fun x hx => hD x (List.mem_append_left _ hx)
    obtain ⟨z, h1, h2, h3, h4, -⟩ := die_last (hD d (List.mem_append_right _ (List.mem_singleton_self _)))
    rw [wn_snoc, wnF_ne]
    refine ⟨z, List.mem_of_getElem? h1, ?_⟩
    rw [mxS_snoc, h2, show (((mxS zs + z.toNat : Nat) : Int) - 1 - z) = (mxS zs : Int) - 1 by omega]
    exact ih

/-! ## the walk -/

end Go.Proofs.Try.Dn

