/-
  Knight: squares near one another, on all boards.
-/
import Derived.Test.YtdjbpmgbaggfbaaDoorKa
set_option linter.unusedVariables false

namespace Go.Proofs.Tryd.Dn
open Go.Dn

def near (c s t : Nat) : Bool := (((s / c : Nat) : Int) - ((t / c : Nat) : Int)) * (((s / c : Nat) : Int) - ((t / c : Nat) : Int)) + (((s % c : Nat) : Int) - ((t % c : Nat) : Int)) * (((s % c : Nat) : Int) - ((t % c : Nat) : Int)) == 5

def nearOk (r c : Nat) : Bool :=
  (List.range (r * c)).all fun s => let m := mv r c s; ((List.range (r * c)).all fun t => m.testBit t == near c s t) && decide (pop 64 m ≤ 8)

theorem near_all : ((List.range 8).all fun r => (List.range 8).all fun c => if (r + 1) * (c + 1) ≤ 36 then nearOk (r + 1) (c + 1) else true) = true := by kernel_rfl

theorem Brd.ok {r c : Nat} (h : Brd r c) {P : Nat → Nat → Bool} (hP : ((List.range 8).all fun r => (List.range 8).all fun c => if (r + 1) * (c + 1) ≤ 36 then P (r + 1) (c + 1) else true) = true) : P r c = true := by
  have h1 := List.all_eq_true.1 hP (r - 1) (List.mem_range.2 (by have := h.r8; have := h.r1; omega))
  have h2 := List.all_eq_true.1 h1 (c - 1) (List.mem_range.2 (by have := h.c8; have := h.c1; omega))
  have e1 : r - 1 + 1 = r := by have := h.r1; omega
  have e2 : c - 1 + 1 = c := by have := h.c1; omega
  rw [e1, e2, if_pos h.n36] at h2
  exact h2

theorem mv_near {r c s t : Nat} (h : Brd r c) (hs : s < r * c) (ht : t < r * c) : (mv r c s).testBit t = near c s t := by
  have h1 := List.all_eq_true.1 (h.ok near_all) s (List.mem_range.2 hs)
  simp only [Bool.and_eq_true] at h1
  have h2 := List.all_eq_true.1 h1.1 t (List.mem_range.2 ht)
  simpa using h2

theorem mv_few {r c s : Nat} (h : Brd r c) (hs : s < r * c) : pop 64 (mv r c s) ≤ 8 := by
  have h1 := List.all_eq_true.1 (h.ok near_all) s (List.mem_range.2 hs)
  simp only [Bool.and_eq_true] at h1
  simpa using h1.2

theorem near_comm (c s t : Nat) : near c s t = near c t s := by
  unfold near
  have : ∀ a b : Int, (a - b) * (a - b) = (b - a) * (b - a) := fun a b => by
    rw [← Int.neg_sub b a, Int.neg_mul_neg]
  rw [this, this (((s % c : Nat) : Int))]

end Go.Proofs.Tryd.Dn

