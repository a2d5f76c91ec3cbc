/-
  Sets: their elements and sizes; lists compared.
-/
import Derived.Test.YtgmlmmgpcbollaaDoorQm
set_option linter.unusedSimpArgs false
set_option linter.unusedVariables false

namespace Go.Proofs.Tryd.Dn
open Go.Dn

/-- the elements of a set -/
def bitsOf (s : Nat) : List Nat := (List.range 5).filter fun i => s.testBit i

theorem bitsOf_mem {s i : Nat} (hs : s < 32) : i ∈ bitsOf s ↔ s.testBit i = true := by
  unfold bitsOf
  rw [List.mem_filter, List.mem_range]
  constructor
  · exact fun h => h.2
  · intro h
    refine ⟨?_, h⟩
    apply Classical.byContradiction
    intro hi
    rw [Nat.testBit_lt_two_pow (by have : 2 ^ 5 ≤ 2 ^ i := Nat.pow_le_pow_right (by decide) (by omega); omega)] at h
    cases h

theorem bitsOf_len (s : Nat) : (bitsOf s).length ≤ 5 := by
  have := List.length_filter_le (fun i => s.testBit i) (List.range 5)
  simpa [bitsOf] using this

/-! sizes -/

def ones (x : Nat) : Nat :=
  let y1 := (x / 2 &&& 6148914691236517205) + (x &&& 6148914691236517205)
  let y2 := (y1 / 4 &&& 3689348814741910323) + (y1 &&& 3689348814741910323)
  let y3 := (y2 / 16 + y2) &&& 1085102592571150095
  let y4 := y3 + y3 / 256
  let y5 := y4 + y4 / 65536
  let y6 := y5 + y5 / 4294967296
  y6 &&& 127

theorem ofInt_nat (m : Nat) : BitVec.ofInt 64 (m : Int) = BitVec.ofNat 64 m := by simp

/-! lists compared -/

end Go.Proofs.Tryd.Dn

/-
  Most observations of one taste: the program's search through all sets.
-/

namespace Go.Proofs.Tryd.Dn
open Go.Dn

end Go.Proofs.Tryd.Dn

/-
  Some of the observations: rings of them are rings of a set.
-/

namespace Go.Proofs.Tryd.Dn
open Go.Dn

def sub (X : List Obs) (l : List Nat) : List Obs := l.map fun i => X.getD i ([], [])

theorem getD_obs {X : List Obs} {i : Nat} (h : i < X.length) : X[i]? = some (X.getD i ([], [])) := by
  rw [List.getD, List.getElem?_eq_getElem h]; rfl

structure IsSet (X : List Obs) (l : List Nat) (s : Nat) : Prop where
  nodup : l.Nodup
  lt : ∀ x ∈ l, x < X.length
  bit : ∀ x, x < X.length → (s.testBit x = true ↔ x ∈ l)

theorem bits_set {X : List Obs} (hn : X.length ≤ 5) {s : Nat} (hs : s < 2 ^ X.length) : IsSet X (bitsOf s) s where
  nodup := by unfold bitsOf; exact List.Pairwise.filter _ List.nodup_range
  lt x hx := by
    have h32 : s < 32 := by have : 2 ^ X.length ≤ 2 ^ 5 := Nat.pow_le_pow_right (by decide) hn; omega
    have hb := (bitsOf_mem h32).1 hx
    apply Classical.byContradiction
    intro hx'
    rw [Nat.testBit_lt_two_pow (Nat.lt_of_lt_of_le hs (Nat.pow_le_pow_right (by decide) (by omega)))] at hb
    cases hb
  bit x hx := by
    have h32 : s < 32 := by have : 2 ^ X.length ≤ 2 ^ 5 := Nat.pow_le_pow_right (by decide) hn; omega
    exact (bitsOf_mem h32).symm

end Go.Proofs.Tryd.Dn

/-
  Most observations of one taste: the reference's.
-/

namespace Go.Proofs.Tryd.Dn
open Go.Dn

end Go.Proofs.Tryd.Dn

