/-
  The reference's closure of a table.
-/
import Derived.Test.YtgmlmmgpcbollaaDoorQf
import Derived.Test.YtgmlmmgpcbollaaDoorDd
set_option linter.unusedSimpArgs false
set_option linter.unusedVariables false

namespace Go.Proofs.Tryd.Dn
open Go.Dn

/-- one leads to another one directly, by a table -/
def tE (n : Nat) (P : Nat → Nat → Int) (i k : Nat) : Bool := decide (i < n) && decide (k < n) && decide (0 < P i k)

end Go.Proofs.Tryd.Dn

/-
  The reference: whether there is a ring by a table, and whether a list is one.
-/

namespace Go.Proofs.Tryd.Dn
open Go.Dn

/-- a pair of a ring, by a table and its closure -/
def PairT (n : Nat) (P : Nat → Nat → Int) (i k : Nat) : Prop := i < n ∧ k < n ∧ i ≠ k ∧ P i k = 2 ∧ wall (tE n P) n k i = true

/-! both see the same rings -/

theorem Rch.congr {E F : Nat → Nat → Bool} (h : ∀ i k, E i k = F i k) {a b : Nat} (hr : Rch E a b) : Rch F a b := by
  induction hr with
  | here => exact .here
  | step _ he ih => exact .step ih (by rw [← h]; exact he)

theorem wE_all {X : List Obs} {a b : Int} (i k : Nat) : wE X (2 ^ X.length - 1) a b i k = tE X.length (pref X a b) i k := by
  simp only [wE, tE, all_bits]
  cases decide (i < X.length) <;> cases decide (k < X.length) <;> simp

theorem pair_iff {X : List Obs} {a b : Int} {i k : Nat} : Pair X (2 ^ X.length - 1) a b i k ↔ PairT X.length (pref X a b) i k := by
  have hT : ∀ i k, tE X.length (pref X a b) i k = true → k < X.length := by
    intro i k h
    simp only [tE, Bool.and_eq_true, decide_eq_true_eq] at h
    exact h.1.2
  unfold Pair PairT
  rw [wall_iff hT, all_bits, all_bits]
  constructor
  · rintro ⟨h1, h2, h3, _, _, h6, h7⟩
    exact ⟨h2, h3, h1, h6, (Rch.congr wE_all h7).rch1 (by omega)⟩
  · rintro ⟨h1, h2, h3, h4, h5⟩
    exact ⟨h3, h1, h2, by simpa using h1, by simpa using h2, h4, Rch.congr (fun i k => (wE_all i k).symm) h5.rch⟩

end Go.Proofs.Tryd.Dn

/-
  The reference: whether a list is a ring by a table.
-/

namespace Go.Proofs.Tryd.Dn
open Go.Dn

def okRing (n : Nat) (l : List Int) : Prop := (∀ x ∈ l, 0 ≤ x ∧ x < (n : Int)) ∧ l.Nodup
def pvf (P : Nat → Nat → Int) (l : List Int) (i : Nat) : Int := P (l.getD i 0).toNat (l.getD ((i + 1) % l.length) 0).toNat
def isRingP (n : Nat) (P : Nat → Nat → Int) (l : List Int) : Prop := okRing n l ∧ (∀ i, i < l.length → pvf P l i ≠ 0) ∧ 2 ≤ l.length ∧ ∃ i, i < l.length ∧ pvf P l i = 2

theorem getD_get {l : List Int} {i : Nat} (h : i < l.length) : l[i]? = some (l.getD i 0) := by
  rw [List.getD, List.getElem?_eq_getElem h]; rfl

/-- a way from k to i, with i strictly preferred to k, is a ring -/
theorem IsWay.ring {X : List Obs} {a b : Int} {i k : Nat} {r : List Nat} (hp : Pair X (2 ^ X.length - 1) a b i k) (h : IsWay (wE X (2 ^ X.length - 1) a b) X.length k i r) : isRingP X.length (pref X a b) (nI r) := by
  have hlen : (nI r).length = r.length := nI_len r
  have hg : ∀ j, j < r.length → (nI r).getD j 0 = ((r.getD j 0 : Nat) : Int) := by
    intro j hj
    rw [List.getD, nI, List.getElem?_map, List.getElem?_eq_getElem hj, List.getD, List.getElem?_eq_getElem hj]; rfl
  have hd : ∀ j (hj : j < r.length), r.getD j 0 = r[j] := fun j hj => by rw [List.getD, List.getElem?_eq_getElem hj]; rfl
  have h0 : r[0]? = some k := by have := h.first; rwa [List.head?_eq_getElem?] at this
  have hl : r[r.length - 1]? = some i := by have := h.last; rwa [List.getLast?_eq_getElem?] at this
  have h2 : 2 ≤ r.length := by
    have h1 := (List.getElem?_eq_some_iff.1 h0).1
    by_cases hr : r.length = 1
    · rw [hr] at hl
      simp only [Nat.sub_self] at hl
      rw [h0] at hl
      exact absurd (Option.some.inj hl).symm hp.1
    · omega
  have hpv : ∀ j, j < r.length → pvf (pref X a b) (nI r) j = if j + 1 = r.length then 2 else pref X a b (r.getD j 0) (r.getD (j + 1) 0) := by
    intro j hj
    unfold pvf
    rw [hlen, hg j hj, hg _ (Nat.mod_lt _ (by omega))]
    simp only [Int.toNat_natCast]
    by_cases hj1 : j + 1 = r.length
    · rw [if_pos hj1, hj1, Nat.mod_self]
      have e1 : r.getD j 0 = i := by
        rw [show j = r.length - 1 by omega, List.getD, hl]; rfl
      have e2 : r.getD 0 0 = k := by rw [List.getD, h0]; rfl
      rw [e1, e2]
      exact hp.2.2.2.2.2.1
    · rw [if_neg hj1, Nat.mod_eq_of_lt (by omega)]
  have hpos : ∀ j, j + 1 < r.length → 0 < pref X a b (r.getD j 0) (r.getD (j + 1) 0) := by
    intro j hj
    have := h.link j (r.getD j 0) (r.getD (j + 1) 0) (by rw [hd j (by omega), List.getElem?_eq_getElem]) (by rw [hd (j + 1) hj, List.getElem?_eq_getElem])
    simp only [wE, Bool.and_eq_true, decide_eq_true_eq] at this
    exact this.2
  refine ⟨⟨fun x hx => ?_, ?_⟩, fun j hj => ?_, by rw [hlen]; exact h2, r.length - 1, by rw [hlen]; omega, ?_⟩
  · obtain ⟨y, hy, rfl⟩ := List.mem_map.1 hx
    have := h.lt y hy
    omega
  · unfold nI
    refine List.Pairwise.map _ ?_ h.nodup
    intro x y hxy he
    exact hxy (by omega)
  · rw [hlen] at hj
    rw [hpv j hj]
    split
    · decide
    · have := hpos j (by omega); omega
  · rw [hpv _ (by omega), if_pos (by omega)]

end Go.Proofs.Tryd.Dn

