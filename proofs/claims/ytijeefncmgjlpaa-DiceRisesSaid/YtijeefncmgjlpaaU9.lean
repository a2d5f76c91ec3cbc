/-
  The search for a ring, walked: where a node is met again, or done.
-/
import Derived.Test.YtijeefncmgjlpaaU8
import Derived.Test.YtijeefncmgjlpaaT8
import Derived.Test.YtijeefncmgjlpaaEd
set_option linter.unusedSimpArgs false
set_option linter.unusedVariables false

set_option maxHeartbeats 4000000
set_option maxRecDepth 100000
namespace Go.Proofs.Try.Dn
open Go.Dn

theorem ci_at {l : List Nat} {k x : Nat} (h : l[k]? = some x) : (ci l)[k]? = some (x : Int) := by unfold ci; rw [List.getElem?_map, h]; rfl
theorem ci_len (l : List Nat) : (ci l).length = l.length := by simp [ci]
theorem ci_ne {l : List Nat} (h : l ≠ []) : ci l ≠ [] := by unfold ci; simpa using h
theorem ci_snoc (l : List Nat) (x : Nat) : ci (l ++ [x]) = ci l ++ [(x : Int)] := by unfold ci; simp

theorem PW.bor {H : Heap} {t : TV} {l : List Int} (h : PW H t l) (hl : l ≠ []) : snap .borrow H 9 t = some (elI.lt true l) := by
  rcases h with ⟨_, h⟩ | h
  · exact absurd h hl
  · rw [h.view.snap elI_flat (by obtain ⟨id, off, cap, c, ag, rfl, _⟩ := h; intro e; cases e), El.lt_ne hl]

theorem ldC1 {pg : Pg} {H : Heap} {r : Nat} {t : TV} (h : H[r]? = some (.cells [t] false)) (ht : t.isAgg = false) : dkc pg (den pg) (.ld 1 false) [.ref r 0] H = some (t, H) := by
  show dk (.ld 1 false) [.ref r 0] H = _
  simp [dk, h, Dn.part, ht]
theorem stC1 {pg : Pg} {H : Heap} {r : Nat} {t v : TV} (h : H[r]? = some (.cells [t] false)) (hv : v.one = true) (hc : v.cells = [v]) : dkc pg (den pg) (.st 1) [.ref r 0, v] H = some (.undef, H.set r (.cells [v] false)) := by
  show dk (.st 1) [.ref r 0, v] H = _
  simp [dk, h, hv, hc, put2]

end Go.Proofs.Try.Dn

