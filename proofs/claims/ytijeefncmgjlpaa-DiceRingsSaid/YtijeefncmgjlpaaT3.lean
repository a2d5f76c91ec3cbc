/-
  The sums of dice: all of them, in order.
-/
import Derived.Test.YtijeefncmgjlpaaT1
import Derived.Test.YtijeefncmgjlpaaEl
import Derived.Test.YtijeefncmgjlpaaK3
set_option linter.unusedSimpArgs false
set_option linter.unusedVariables false

set_option maxHeartbeats 1000000
namespace Go.Proofs.Try.Dn
open Go.Dn

end Go.Proofs.Try.Dn

/-
  The reference's ways of all sums.
-/

set_option maxHeartbeats 1000000
namespace Go.Proofs.Try.Dn
open Go.Dn

def gC (G : Nat → Nat) (M : Nat) : List TV := (List.range M).map fun t => .i .i64 ((G t : Nat) : Int)
def gL (G : Nat → Nat) (M : Nat) : List Int := (List.range M).map fun t => ((G t : Nat) : Int)

theorem gC_len (G : Nat → Nat) (M : Nat) : (gC G M).length = M := by simp [gC]
theorem gC_at {G : Nat → Nat} {M t : Nat} (h : t < M) : (gC G M)[t]? = some (.i .i64 ((G t : Nat) : Int)) := by
  unfold gC; rw [List.getElem?_map, List.getElem?_range h]; rfl
theorem gC_put {G : Nat → Nat} {M t : Nat} (h : t < M) (v : Nat) : put2 (gC G M) t [.i .i64 ((v : Nat) : Int)] = gC (fun u => if u = t then v else G u) M := by
  apply List.ext_getElem?
  intro i
  unfold put2
  have hl := gC_len G M
  by_cases hi : i < M
  · rw [gC_at hi]
    rcases Nat.lt_trichotomy i t with h1 | rfl | h1
    · rw [List.append_assoc, List.getElem?_append_left (by simp; omega), List.getElem?_take, if_pos h1, gC_at hi, if_neg (by omega)]
    · rw [List.append_assoc, List.getElem?_append_right (by simp; omega)]
      simp; rw [show min i (gC G M).length = i by omega]; simp
    · rw [List.getElem?_append_right (by simp; omega)]
      simp only [List.length_append, List.length_take, List.length_singleton, List.getElem?_drop]
      rw [show t + 1 + (i - (min t (gC G M).length + 1)) = i by omega, gC_at hi, if_neg (by omega)]
  · rw [List.getElem?_eq_none (by simp; omega), List.getElem?_eq_none (by rw [gC_len]; omega)]

structure RowG (H : Heap) (id M : Nat) (G : Nat → Nat) : Prop where
  at_ : H[id]? = some (.cells (gC G M) false)

theorem RowG.ix {pg : Pg} (H : Heap) (id : Nat) {M t : Nat} (ht : t < M) : dkc pg (den pg) (.ixS 1 false) [.sl id 0 1 false M (some M), .i .i64 (t : Int)] H = some (.ref id t, H) := by
  simp [dkc, dk, bound, ht]
theorem RowG.ld {H : Heap} {id M t : Nat} {G : Nat → Nat} (h : RowG H id M G) (ht : t < M) : ldC H[id]? 1 false t H = some (.i .i64 ((G t : Nat) : Int), H) := by
  rw [h.at_]; simp [ldC, Dn.part, gC_at ht, up]; rfl
theorem RowG.st {pg : Pg} {H : Heap} {id M t : Nat} {G : Nat → Nat} (h : RowG H id M G) (ht : t < M) (v : Nat) : ∃ H', dkc pg (den pg) (.st 1) [.ref id t, .i .i64 ((v : Nat) : Int)] H = some (.undef, H') ∧ RowG H' id M (fun u => if u = t then v else G u) ∧ (∀ j, j ≠ id → H'[j]? = H[j]?) ∧ H'.length = H.length := by
  have hlt := (List.getElem?_eq_some_iff.1 h.at_).1
  refine ⟨H.set id (.cells (gC (fun u => if u = t then v else G u) M) false), ?_, ⟨by simp [hlt]⟩, fun j hj => List.getElem?_set_ne (Ne.symm hj), by simp⟩
  show dk (.st 1) [.ref id t, .i .i64 ((v : Nat) : Int)] H = _
  simp only [dk, h.at_, TV.cells, List.length_singleton]
  rw [if_pos ⟨trivial, rfl, by rw [gC_len]; omega⟩, gC_put ht]

end Go.Proofs.Try.Dn

