/-
  Knight: a pairing with as many pairs as possible, in the program.
-/
import Derived.Test.YtdjbpmgbaggfbaaDoorKfb
set_option linter.unusedSimpArgs false
set_option linter.unusedVariables false

namespace Go.Proofs.Tryd.Dn
open Go.Dn

theorem untr_le (n tr : Nat) : untr n tr ≤ n := by
  unfold untr
  exact Nat.le_trans List.countP_le_length (by simp)

structure PS (r c P lp : Nat) (BV : TV) (H0 H : Heap) (M : List Int) (tr : Nat) : Prop where
  p : H[P]? = some (.cells (pC BV M tr) true)
  p1 : H[P + 1]? = some (.cells [.ref P 0] false)
  p2 : H[P + 2]? = some (.cells [.fn 96 [.ref P 0] []] false)
  len : lp < H.length
  old : ∀ j, j < P → H[j]? = H0[j]?
  mok : MOk (r * c) M

theorem PS.set {r c P lp : Nat} {BV : TV} {H0 H : Heap} {M : List Int} {tr : Nat} (h : PS r c P lp BV H0 H M tr) {j : Nat} (hj : P + 3 ≤ j) (o : AObj) : PS r c P lp BV H0 (H.set j o) M tr :=
  ⟨by rw [List.getElem?_set_ne (by omega)]; exact h.p, by rw [List.getElem?_set_ne (by omega)]; exact h.p1, by rw [List.getElem?_set_ne (by omega)]; exact h.p2, by simpa using h.len,
    fun k hk => by rw [List.getElem?_set_ne (by omega)]; exact h.old k hk, h.mok⟩

end Go.Proofs.Tryd.Dn

/-
  Knight: what is reached by a pairing, in the program.
-/

namespace Go.Proofs.Tryd.Dn
open Go.Dn

/-! in plain terms -/
theorem untr_grow {n a b : Nat} (ha : a < 2 ^ n) (hb : b < 2 ^ n) (hs : ∀ i, a.testBit i = true → b.testBit i = true) (hne : b ≠ a) : untr n b + 1 ≤ untr n a := by
  have : ∃ i, b.testBit i = true ∧ a.testBit i = false := by
    apply Classical.byContradiction
    intro hc
    apply hne
    apply Nat.eq_of_testBit_eq
    intro i
    cases h1 : b.testBit i <;> cases h2 : a.testBit i
    · rfl
    · rw [hs i h2] at h1; cases h1
    · exact (hc ⟨i, h1, h2⟩).elim
    · rfl
  obtain ⟨i, h1, h2⟩ := this
  have hi : i < n := by
    apply Classical.byContradiction
    intro hc
    rw [Nat.testBit_lt_two_pow (Nat.lt_of_lt_of_le hb (Nat.pow_le_pow_right (by decide) (by omega)))] at h1
    cases h1
  unfold untr
  refine cnt_lt (fun x _ hp => ?_) ⟨i, List.mem_range.2 hi, by rw [h2]; rfl, by rw [h1]; rfl⟩
  cases h3 : a.testBit x
  · rfl
  · rw [hs x h3] at hp; cases hp

/-! the pairing by value -/
structure RS (r c lp : Nat) (PV : TV) (H : Heap) (own : Nat) : Prop where
  a0 : H[0]? = some (.cells [PV] false)
  a1 : H[1]? = some (.cells [.i .u64 (own : Int)] false)
  len : lp < H.length
  lt : own < 2 ^ (r * c)

theorem RS.set {r c lp : Nat} {PV : TV} {H : Heap} {own : Nat} (h : RS r c lp PV H own) {j : Nat} (hj : 2 ≤ j) (o : AObj) : RS r c lp PV (H.set j o) own :=
  ⟨by rw [List.getElem?_set_ne (by omega)]; exact h.a0, by rw [List.getElem?_set_ne (by omega)]; exact h.a1, by simpa using h.len, h.lt⟩

end Go.Proofs.Tryd.Dn

