/-
  Knight: all turns of a closed tour have one turn that counts.
-/
import Derived.Test.YtdjbpmgbaggfbaaDoorKfv
import Derived.Test.YtdjbpmgbaggfbaaDoorKfi
set_option linter.unusedSimpArgs false
set_option linter.unusedVariables false

namespace Go.Proofs.Tryd.Dn
open Go.Dn

theorem nodup_getD {l : List Int} (h : l.Nodup) {i j : Nat} (hi : i < l.length) (hj : j < l.length) (he : l.getD i 0 = l.getD j 0) : i = j := by
  have h1 := getD_some hi
  have h2 := getD_some hj
  rw [List.getElem?_eq_getElem hi] at h1
  rw [List.getElem?_eq_getElem hj] at h2
  have : l[i] = l[j] := by
    have a := Option.some.inj h1
    have b := Option.some.inj h2
    rw [a, b, he]
  exact (List.getElem_inj h).1 this

end Go.Proofs.Tryd.Dn

/-
  Knight: a closed tour turned is a closed tour.
-/

namespace Go.Proofs.Tryd.Dn
open Go.Dn

end Go.Proofs.Tryd.Dn

/-
  Knight: the law of turns, run.
-/

namespace Go.Proofs.Tryd.Dn
open Go.Dn

theorem zero_at {r c : Nat} {l : List Int} (h : Brd r c) (hc : closedB r c l = true) : ∃ i, l[i]? = some 0 ∧ (∀ j, j < i → l[j]? ≠ some 0) ∧ i < l.length := by
  obtain ⟨hl3, hln⟩ := closed_long h hc
  unfold closedB at hc
  rw [Bool.and_eq_true] at hc
  have hnd : l.Nodup := by
    have := hc.1
    unfold tourB at this
    rw [Bool.and_eq_true] at this
    exact of_decide_eq_true this.2
  have hin : ∀ x, x ∈ l → 0 ≤ x ∧ x < ((r * c : Nat) : Int) := by
    have := hc.1
    unfold tourB at this
    rw [Bool.and_eq_true, Bool.and_eq_true] at this
    have hw := this.1.2
    unfold isWay at hw
    simp only [Bool.and_eq_true, List.all_eq_true, List.mem_range] at hw
    exact all_in hw.1
  have h0 := (all_there (n := r * c) hnd hin).2 hln 0 (by omega)
  obtain ⟨i, hi, hx⟩ := List.getElem_of_mem h0
  have hi0 : l[i]? = some 0 := by rw [List.getElem?_eq_getElem hi, hx]; rfl
  refine ⟨i, hi0, fun j hj hj0 => ?_, hi⟩
  have := nodup_getD hnd (i := j) (j := i) (by omega) hi (by rw [List.getD_eq_getElem?_getD, List.getD_eq_getElem?_getD, hi0, hj0])
  omega

end Go.Proofs.Tryd.Dn

/-
  Knight: the law of turns, run: the end.
-/

namespace Go.Proofs.Tryd.Dn
open Go.Dn

end Go.Proofs.Tryd.Dn

