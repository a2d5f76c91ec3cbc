/-
  Knight: tight sets on the boards, by the reference: six by five, five by six.
-/
import Derived.Test.YtdjbpmgbaggfbaaDoorKfj
set_option linter.unusedVariables false

namespace Go.Proofs.Tryd.Dn
open Go.Dn
def nb_6_5 : List (List Nat) := [[7, 11], [8, 10, 12], [5, 9, 11, 13], [6, 12, 14], [7, 13], [2, 12, 16], [3, 13, 15, 17], [0, 4, 10, 14, 16, 18], [1, 11, 17, 19], [2, 12, 18], [1, 7, 17, 21], [0, 2, 8, 18, 20, 22], [1, 3, 5, 9, 15, 19, 21, 23], [2, 4, 6, 16, 22, 24], [3, 7, 17, 23], [6, 12, 22, 26], [5, 7, 13, 23, 25, 27], [6, 8, 10, 14, 20, 24, 26, 28], [7, 9, 11, 21, 27, 29], [8, 12, 22, 28], [11, 17, 27], [10, 12, 18, 28], [11, 13, 15, 19, 25, 29], [12, 14, 16, 26], [13, 17, 27], [16, 22], [15, 17, 23], [16, 18, 20, 24], [17, 19, 21], [18, 22]]
theorem nb_6_5_ok : TblOk 6 5 nb_6_5 := by unfold TblOk; kernel_rfl
theorem pz_6_5_0 : (decide (colM 6 5 0 ≠ 0) && decide (pop 64 (colM 6 5 1) < pop 64 (colM 6 5 0))) = false := by kernel_rfl
theorem nt_6_5_0_0 : ((List.range 6).all fun i => !(tryAT nb_6_5 30 (colM 6 5 0) (colM 6 5 1) (0 + i))) = true := by kernel_rfl
theorem nt_6_5_0_1 : ((List.range 6).all fun i => !(tryAT nb_6_5 30 (colM 6 5 0) (colM 6 5 1) (6 + i))) = true := by kernel_rfl
theorem nt_6_5_0_2 : ((List.range 6).all fun i => !(tryAT nb_6_5 30 (colM 6 5 0) (colM 6 5 1) (12 + i))) = true := by kernel_rfl
theorem nt_6_5_0_3 : ((List.range 6).all fun i => !(tryAT nb_6_5 30 (colM 6 5 0) (colM 6 5 1) (18 + i))) = true := by kernel_rfl
theorem nt_6_5_0_4 : ((List.range 6).all fun i => !(tryAT nb_6_5 30 (colM 6 5 0) (colM 6 5 1) (24 + i))) = true := by kernel_rfl
theorem nt_6_5_0 : (List.range 30).any (tryAT nb_6_5 30 (colM 6 5 0) (colM 6 5 1)) = false := by
  rw [List.any_eq_false]
  intro a ha
  rw [List.mem_range] at ha
  have key : ∀ k i, ((List.range 6).all fun i => !(tryAT nb_6_5 30 (colM 6 5 0) (colM 6 5 1) (k + i))) = true → i < 6 → a = k + i → ¬ tryAT nb_6_5 30 (colM 6 5 0) (colM 6 5 1) a = true := fun k i h1 h2 h3 => by
    have := List.all_eq_true.1 h1 i (List.mem_range.2 h2)
    rw [h3]
    simpa using this
  have hk : a / 6 = 0 ∨ a / 6 = 1 ∨ a / 6 = 2 ∨ a / 6 = 3 ∨ a / 6 = 4 := by omega
  rcases hk with hk | hk | hk | hk | hk
  · exact key 0 (a % 6) nt_6_5_0_0 (by omega) (by omega)
  · exact key 6 (a % 6) nt_6_5_0_1 (by omega) (by omega)
  · exact key 12 (a % 6) nt_6_5_0_2 (by omega) (by omega)
  · exact key 18 (a % 6) nt_6_5_0_3 (by omega) (by omega)
  · exact key 24 (a % 6) nt_6_5_0_4 (by omega) (by omega)
theorem pz_6_5_1 : (decide (colM 6 5 1 ≠ 0) && decide (pop 64 (colM 6 5 0) < pop 64 (colM 6 5 1))) = false := by kernel_rfl
theorem nt_6_5_1_0 : ((List.range 6).all fun i => !(tryAT nb_6_5 30 (colM 6 5 1) (colM 6 5 0) (0 + i))) = true := by kernel_rfl
theorem nt_6_5_1_1 : ((List.range 6).all fun i => !(tryAT nb_6_5 30 (colM 6 5 1) (colM 6 5 0) (6 + i))) = true := by kernel_rfl
theorem nt_6_5_1_2 : ((List.range 6).all fun i => !(tryAT nb_6_5 30 (colM 6 5 1) (colM 6 5 0) (12 + i))) = true := by kernel_rfl
theorem nt_6_5_1_3 : ((List.range 6).all fun i => !(tryAT nb_6_5 30 (colM 6 5 1) (colM 6 5 0) (18 + i))) = true := by kernel_rfl
theorem nt_6_5_1_4 : ((List.range 6).all fun i => !(tryAT nb_6_5 30 (colM 6 5 1) (colM 6 5 0) (24 + i))) = true := by kernel_rfl
theorem nt_6_5_1 : (List.range 30).any (tryAT nb_6_5 30 (colM 6 5 1) (colM 6 5 0)) = false := by
  rw [List.any_eq_false]
  intro a ha
  rw [List.mem_range] at ha
  have key : ∀ k i, ((List.range 6).all fun i => !(tryAT nb_6_5 30 (colM 6 5 1) (colM 6 5 0) (k + i))) = true → i < 6 → a = k + i → ¬ tryAT nb_6_5 30 (colM 6 5 1) (colM 6 5 0) a = true := fun k i h1 h2 h3 => by
    have := List.all_eq_true.1 h1 i (List.mem_range.2 h2)
    rw [h3]
    simpa using this
  have hk : a / 6 = 0 ∨ a / 6 = 1 ∨ a / 6 = 2 ∨ a / 6 = 3 ∨ a / 6 = 4 := by omega
  rcases hk with hk | hk | hk | hk | hk
  · exact key 0 (a % 6) nt_6_5_1_0 (by omega) (by omega)
  · exact key 6 (a % 6) nt_6_5_1_1 (by omega) (by omega)
  · exact key 12 (a % 6) nt_6_5_1_2 (by omega) (by omega)
  · exact key 18 (a % 6) nt_6_5_1_3 (by omega) (by omega)
  · exact key 24 (a % 6) nt_6_5_1_4 (by omega) (by omega)
theorem has_6_5 : hasT 6 5 = false := by
  rw [hasTT_eq nb_6_5_ok]
  unfold hasTT tryCT
  rw [show 6 * 5 = 30 from rfl, nt_6_5_0, nt_6_5_1, pz_6_5_0, pz_6_5_1]
  rfl
def nb_5_6 : List (List Nat) := [[8, 13], [9, 12, 14], [6, 10, 13, 15], [7, 11, 14, 16], [8, 15, 17], [9, 16], [2, 14, 19], [3, 15, 18, 20], [0, 4, 12, 16, 19, 21], [1, 5, 13, 17, 20, 22], [2, 14, 21, 23], [3, 15, 22], [1, 8, 20, 25], [0, 2, 9, 21, 24, 26], [1, 3, 6, 10, 18, 22, 25, 27], [2, 4, 7, 11, 19, 23, 26, 28], [3, 5, 8, 20, 27, 29], [4, 9, 21, 28], [7, 14, 26], [6, 8, 15, 27], [7, 9, 12, 16, 24, 28], [8, 10, 13, 17, 25, 29], [9, 11, 14, 26], [10, 15, 27], [13, 20], [12, 14, 21], [13, 15, 18, 22], [14, 16, 19, 23], [15, 17, 20], [16, 21]]
theorem nb_5_6_ok : TblOk 5 6 nb_5_6 := by unfold TblOk; kernel_rfl
theorem pz_5_6_0 : (decide (colM 5 6 0 ≠ 0) && decide (pop 64 (colM 5 6 1) < pop 64 (colM 5 6 0))) = false := by kernel_rfl
theorem nt_5_6_0_0 : ((List.range 6).all fun i => !(tryAT nb_5_6 30 (colM 5 6 0) (colM 5 6 1) (0 + i))) = true := by kernel_rfl
theorem nt_5_6_0_1 : ((List.range 6).all fun i => !(tryAT nb_5_6 30 (colM 5 6 0) (colM 5 6 1) (6 + i))) = true := by kernel_rfl
theorem nt_5_6_0_2 : ((List.range 6).all fun i => !(tryAT nb_5_6 30 (colM 5 6 0) (colM 5 6 1) (12 + i))) = true := by kernel_rfl
theorem nt_5_6_0_3 : ((List.range 6).all fun i => !(tryAT nb_5_6 30 (colM 5 6 0) (colM 5 6 1) (18 + i))) = true := by kernel_rfl
theorem nt_5_6_0_4 : ((List.range 6).all fun i => !(tryAT nb_5_6 30 (colM 5 6 0) (colM 5 6 1) (24 + i))) = true := by kernel_rfl
theorem nt_5_6_0 : (List.range 30).any (tryAT nb_5_6 30 (colM 5 6 0) (colM 5 6 1)) = false := by
  rw [List.any_eq_false]
  intro a ha
  rw [List.mem_range] at ha
  have key : ∀ k i, ((List.range 6).all fun i => !(tryAT nb_5_6 30 (colM 5 6 0) (colM 5 6 1) (k + i))) = true → i < 6 → a = k + i → ¬ tryAT nb_5_6 30 (colM 5 6 0) (colM 5 6 1) a = true := fun k i h1 h2 h3 => by
    have := List.all_eq_true.1 h1 i (List.mem_range.2 h2)
    rw [h3]
    simpa using this
  have hk : a / 6 = 0 ∨ a / 6 = 1 ∨ a / 6 = 2 ∨ a / 6 = 3 ∨ a / 6 = 4 := by omega
  rcases hk with hk | hk | hk | hk | hk
  · exact key 0 (a % 6) nt_5_6_0_0 (by omega) (by omega)
  · exact key 6 (a % 6) nt_5_6_0_1 (by omega) (by omega)
  · exact key 12 (a % 6) nt_5_6_0_2 (by omega) (by omega)
  · exact key 18 (a % 6) nt_5_6_0_3 (by omega) (by omega)
  · exact key 24 (a % 6) nt_5_6_0_4 (by omega) (by omega)
theorem pz_5_6_1 : (decide (colM 5 6 1 ≠ 0) && decide (pop 64 (colM 5 6 0) < pop 64 (colM 5 6 1))) = false := by kernel_rfl
theorem nt_5_6_1_0 : ((List.range 6).all fun i => !(tryAT nb_5_6 30 (colM 5 6 1) (colM 5 6 0) (0 + i))) = true := by kernel_rfl
theorem nt_5_6_1_1 : ((List.range 6).all fun i => !(tryAT nb_5_6 30 (colM 5 6 1) (colM 5 6 0) (6 + i))) = true := by kernel_rfl
theorem nt_5_6_1_2 : ((List.range 6).all fun i => !(tryAT nb_5_6 30 (colM 5 6 1) (colM 5 6 0) (12 + i))) = true := by kernel_rfl
theorem nt_5_6_1_3 : ((List.range 6).all fun i => !(tryAT nb_5_6 30 (colM 5 6 1) (colM 5 6 0) (18 + i))) = true := by kernel_rfl
theorem nt_5_6_1_4 : ((List.range 6).all fun i => !(tryAT nb_5_6 30 (colM 5 6 1) (colM 5 6 0) (24 + i))) = true := by kernel_rfl
theorem nt_5_6_1 : (List.range 30).any (tryAT nb_5_6 30 (colM 5 6 1) (colM 5 6 0)) = false := by
  rw [List.any_eq_false]
  intro a ha
  rw [List.mem_range] at ha
  have key : ∀ k i, ((List.range 6).all fun i => !(tryAT nb_5_6 30 (colM 5 6 1) (colM 5 6 0) (k + i))) = true → i < 6 → a = k + i → ¬ tryAT nb_5_6 30 (colM 5 6 1) (colM 5 6 0) a = true := fun k i h1 h2 h3 => by
    have := List.all_eq_true.1 h1 i (List.mem_range.2 h2)
    rw [h3]
    simpa using this
  have hk : a / 6 = 0 ∨ a / 6 = 1 ∨ a / 6 = 2 ∨ a / 6 = 3 ∨ a / 6 = 4 := by omega
  rcases hk with hk | hk | hk | hk | hk
  · exact key 0 (a % 6) nt_5_6_1_0 (by omega) (by omega)
  · exact key 6 (a % 6) nt_5_6_1_1 (by omega) (by omega)
  · exact key 12 (a % 6) nt_5_6_1_2 (by omega) (by omega)
  · exact key 18 (a % 6) nt_5_6_1_3 (by omega) (by omega)
  · exact key 24 (a % 6) nt_5_6_1_4 (by omega) (by omega)
theorem has_5_6 : hasT 5 6 = false := by
  rw [hasTT_eq nb_5_6_ok]
  unfold hasTT tryCT
  rw [show 5 * 6 = 30 from rfl, nt_5_6_0, nt_5_6_1, pz_5_6_0, pz_5_6_1]
  rfl

end Go.Proofs.Tryd.Dn

