/-
  Knight: tight sets on the boards, by the reference: eight by three and three by eight, and four rows.
-/
import Derived.Test.YtdjbpmgbaggfbaaDoorKfj
set_option linter.unusedVariables false

namespace Go.Proofs.Tryd.Dn
open Go.Dn
def nb_8_3 : List (List Nat) := [[5, 7], [6, 8], [3, 7], [2, 8, 10], [9, 11], [0, 6, 10], [1, 5, 11, 13], [0, 2, 12, 14], [1, 3, 9, 13], [4, 8, 14, 16], [3, 5, 15, 17], [4, 6, 12, 16], [7, 11, 17, 19], [6, 8, 18, 20], [7, 9, 15, 19], [10, 14, 20, 22], [9, 11, 21, 23], [10, 12, 18, 22], [13, 17, 23], [12, 14], [13, 15, 21], [16, 20], [15, 17], [16, 18]]
theorem nb_8_3_ok : TblOk 8 3 nb_8_3 := by unfold TblOk; kernel_rfl
theorem pz_8_3_0 : (decide (colM 8 3 0 ≠ 0) && decide (pop 64 (colM 8 3 1) < pop 64 (colM 8 3 0))) = false := by kernel_rfl
theorem nt_8_3_0_0 : ((List.range 6).all fun i => !(tryAT nb_8_3 24 (colM 8 3 0) (colM 8 3 1) (0 + i))) = true := by kernel_rfl
theorem nt_8_3_0_1 : ((List.range 6).all fun i => !(tryAT nb_8_3 24 (colM 8 3 0) (colM 8 3 1) (6 + i))) = true := by kernel_rfl
theorem nt_8_3_0_2 : ((List.range 6).all fun i => !(tryAT nb_8_3 24 (colM 8 3 0) (colM 8 3 1) (12 + i))) = true := by kernel_rfl
theorem nt_8_3_0_3 : ((List.range 6).all fun i => !(tryAT nb_8_3 24 (colM 8 3 0) (colM 8 3 1) (18 + i))) = true := by kernel_rfl
theorem nt_8_3_0 : (List.range 24).any (tryAT nb_8_3 24 (colM 8 3 0) (colM 8 3 1)) = false := by
  rw [List.any_eq_false]
  intro a ha
  rw [List.mem_range] at ha
  have key : ∀ k i, ((List.range 6).all fun i => !(tryAT nb_8_3 24 (colM 8 3 0) (colM 8 3 1) (k + i))) = true → i < 6 → a = k + i → ¬ tryAT nb_8_3 24 (colM 8 3 0) (colM 8 3 1) a = true := fun k i h1 h2 h3 => by
    have := List.all_eq_true.1 h1 i (List.mem_range.2 h2)
    rw [h3]
    simpa using this
  have hk : a / 6 = 0 ∨ a / 6 = 1 ∨ a / 6 = 2 ∨ a / 6 = 3 := by omega
  rcases hk with hk | hk | hk | hk
  · exact key 0 (a % 6) nt_8_3_0_0 (by omega) (by omega)
  · exact key 6 (a % 6) nt_8_3_0_1 (by omega) (by omega)
  · exact key 12 (a % 6) nt_8_3_0_2 (by omega) (by omega)
  · exact key 18 (a % 6) nt_8_3_0_3 (by omega) (by omega)
theorem pz_8_3_1 : (decide (colM 8 3 1 ≠ 0) && decide (pop 64 (colM 8 3 0) < pop 64 (colM 8 3 1))) = false := by kernel_rfl
theorem nt_8_3_1_0 : ((List.range 6).all fun i => !(tryAT nb_8_3 24 (colM 8 3 1) (colM 8 3 0) (0 + i))) = true := by kernel_rfl
theorem nt_8_3_1_1 : ((List.range 6).all fun i => !(tryAT nb_8_3 24 (colM 8 3 1) (colM 8 3 0) (6 + i))) = true := by kernel_rfl
theorem nt_8_3_1_2 : ((List.range 6).all fun i => !(tryAT nb_8_3 24 (colM 8 3 1) (colM 8 3 0) (12 + i))) = true := by kernel_rfl
theorem nt_8_3_1_3 : ((List.range 6).all fun i => !(tryAT nb_8_3 24 (colM 8 3 1) (colM 8 3 0) (18 + i))) = true := by kernel_rfl
theorem nt_8_3_1 : (List.range 24).any (tryAT nb_8_3 24 (colM 8 3 1) (colM 8 3 0)) = false := by
  rw [List.any_eq_false]
  intro a ha
  rw [List.mem_range] at ha
  have key : ∀ k i, ((List.range 6).all fun i => !(tryAT nb_8_3 24 (colM 8 3 1) (colM 8 3 0) (k + i))) = true → i < 6 → a = k + i → ¬ tryAT nb_8_3 24 (colM 8 3 1) (colM 8 3 0) a = true := fun k i h1 h2 h3 => by
    have := List.all_eq_true.1 h1 i (List.mem_range.2 h2)
    rw [h3]
    simpa using this
  have hk : a / 6 = 0 ∨ a / 6 = 1 ∨ a / 6 = 2 ∨ a / 6 = 3 := by omega
  rcases hk with hk | hk | hk | hk
  · exact key 0 (a % 6) nt_8_3_1_0 (by omega) (by omega)
  · exact key 6 (a % 6) nt_8_3_1_1 (by omega) (by omega)
  · exact key 12 (a % 6) nt_8_3_1_2 (by omega) (by omega)
  · exact key 18 (a % 6) nt_8_3_1_3 (by omega) (by omega)
theorem has_8_3 : hasT 8 3 = false := by
  rw [hasTT_eq nb_8_3_ok]
  unfold hasTT tryCT
  rw [show 8 * 3 = 24 from rfl, nt_8_3_0, nt_8_3_1, pz_8_3_0, pz_8_3_1]
  rfl
def nb_3_8 : List (List Nat) := [[10, 17], [11, 16, 18], [8, 12, 17, 19], [9, 13, 18, 20], [10, 14, 19, 21], [11, 15, 20, 22], [12, 21, 23], [13, 22], [2, 18], [3, 19], [0, 4, 16, 20], [1, 5, 17, 21], [2, 6, 18, 22], [3, 7, 19, 23], [4, 20], [5, 21], [1, 10], [0, 2, 11], [1, 3, 8, 12], [2, 4, 9, 13], [3, 5, 10, 14], [4, 6, 11, 15], [5, 7, 12], [6, 13]]
theorem nb_3_8_ok : TblOk 3 8 nb_3_8 := by unfold TblOk; kernel_rfl
theorem pz_3_8_0 : (decide (colM 3 8 0 ≠ 0) && decide (pop 64 (colM 3 8 1) < pop 64 (colM 3 8 0))) = false := by kernel_rfl
theorem nt_3_8_0_0 : ((List.range 6).all fun i => !(tryAT nb_3_8 24 (colM 3 8 0) (colM 3 8 1) (0 + i))) = true := by kernel_rfl
theorem nt_3_8_0_1 : ((List.range 6).all fun i => !(tryAT nb_3_8 24 (colM 3 8 0) (colM 3 8 1) (6 + i))) = true := by kernel_rfl
theorem nt_3_8_0_2 : ((List.range 6).all fun i => !(tryAT nb_3_8 24 (colM 3 8 0) (colM 3 8 1) (12 + i))) = true := by kernel_rfl
theorem nt_3_8_0_3 : ((List.range 6).all fun i => !(tryAT nb_3_8 24 (colM 3 8 0) (colM 3 8 1) (18 + i))) = true := by kernel_rfl
theorem nt_3_8_0 : (List.range 24).any (tryAT nb_3_8 24 (colM 3 8 0) (colM 3 8 1)) = false := by
  rw [List.any_eq_false]
  intro a ha
  rw [List.mem_range] at ha
  have key : ∀ k i, ((List.range 6).all fun i => !(tryAT nb_3_8 24 (colM 3 8 0) (colM 3 8 1) (k + i))) = true → i < 6 → a = k + i → ¬ tryAT nb_3_8 24 (colM 3 8 0) (colM 3 8 1) a = true := fun k i h1 h2 h3 => by
    have := List.all_eq_true.1 h1 i (List.mem_range.2 h2)
    rw [h3]
    simpa using this
  have hk : a / 6 = 0 ∨ a / 6 = 1 ∨ a / 6 = 2 ∨ a / 6 = 3 := by omega
  rcases hk with hk | hk | hk | hk
  · exact key 0 (a % 6) nt_3_8_0_0 (by omega) (by omega)
  · exact key 6 (a % 6) nt_3_8_0_1 (by omega) (by omega)
  · exact key 12 (a % 6) nt_3_8_0_2 (by omega) (by omega)
  · exact key 18 (a % 6) nt_3_8_0_3 (by omega) (by omega)
theorem pz_3_8_1 : (decide (colM 3 8 1 ≠ 0) && decide (pop 64 (colM 3 8 0) < pop 64 (colM 3 8 1))) = false := by kernel_rfl
theorem nt_3_8_1_0 : ((List.range 6).all fun i => !(tryAT nb_3_8 24 (colM 3 8 1) (colM 3 8 0) (0 + i))) = true := by kernel_rfl
theorem nt_3_8_1_1 : ((List.range 6).all fun i => !(tryAT nb_3_8 24 (colM 3 8 1) (colM 3 8 0) (6 + i))) = true := by kernel_rfl
theorem nt_3_8_1_2 : ((List.range 6).all fun i => !(tryAT nb_3_8 24 (colM 3 8 1) (colM 3 8 0) (12 + i))) = true := by kernel_rfl
theorem nt_3_8_1_3 : ((List.range 6).all fun i => !(tryAT nb_3_8 24 (colM 3 8 1) (colM 3 8 0) (18 + i))) = true := by kernel_rfl
theorem nt_3_8_1 : (List.range 24).any (tryAT nb_3_8 24 (colM 3 8 1) (colM 3 8 0)) = false := by
  rw [List.any_eq_false]
  intro a ha
  rw [List.mem_range] at ha
  have key : ∀ k i, ((List.range 6).all fun i => !(tryAT nb_3_8 24 (colM 3 8 1) (colM 3 8 0) (k + i))) = true → i < 6 → a = k + i → ¬ tryAT nb_3_8 24 (colM 3 8 1) (colM 3 8 0) a = true := fun k i h1 h2 h3 => by
    have := List.all_eq_true.1 h1 i (List.mem_range.2 h2)
    rw [h3]
    simpa using this
  have hk : a / 6 = 0 ∨ a / 6 = 1 ∨ a / 6 = 2 ∨ a / 6 = 3 := by omega
  rcases hk with hk | hk | hk | hk
  · exact key 0 (a % 6) nt_3_8_1_0 (by omega) (by omega)
  · exact key 6 (a % 6) nt_3_8_1_1 (by omega) (by omega)
  · exact key 12 (a % 6) nt_3_8_1_2 (by omega) (by omega)
  · exact key 18 (a % 6) nt_3_8_1_3 (by omega) (by omega)
theorem has_3_8 : hasT 3 8 = false := by
  rw [hasTT_eq nb_3_8_ok]
  unfold hasTT tryCT
  rw [show 3 * 8 = 24 from rfl, nt_3_8_0, nt_3_8_1, pz_3_8_0, pz_3_8_1]
  rfl
def nb_4_1 : List (List Nat) := [[], [], [], []]
theorem nb_4_1_ok : TblOk 4 1 nb_4_1 := by unfold TblOk; kernel_rfl
theorem hasT_4_1 : hasTT nb_4_1 4 1 = true := by kernel_rfl
theorem has_4_1 : hasT 4 1 = true := (hasTT_eq nb_4_1_ok).trans hasT_4_1
def nb_4_2 : List (List Nat) := [[5], [4], [7], [6], [1], [0], [3], [2]]
theorem nb_4_2_ok : TblOk 4 2 nb_4_2 := by unfold TblOk; kernel_rfl
theorem hasT_4_2 : hasTT nb_4_2 4 2 = true := by kernel_rfl
theorem has_4_2 : hasT 4 2 = true := (hasTT_eq nb_4_2_ok).trans hasT_4_2
def nb_4_3 : List (List Nat) := [[5, 7], [6, 8], [3, 7], [2, 8, 10], [9, 11], [0, 6, 10], [1, 5, 11], [0, 2], [1, 3, 9], [4, 8], [3, 5], [4, 6]]
theorem nb_4_3_ok : TblOk 4 3 nb_4_3 := by unfold TblOk; kernel_rfl
theorem hasT_4_3 : hasTT nb_4_3 4 3 = true := by kernel_rfl
theorem has_4_3 : hasT 4 3 = true := (hasTT_eq nb_4_3_ok).trans hasT_4_3
def nb_4_4 : List (List Nat) := [[6, 9], [7, 8, 10], [4, 9, 11], [5, 10], [2, 10, 13], [3, 11, 12, 14], [0, 8, 13, 15], [1, 9, 14], [1, 6, 14], [0, 2, 7, 15], [1, 3, 4, 12], [2, 5, 13], [5, 10], [4, 6, 11], [5, 7, 8], [6, 9]]
theorem nb_4_4_ok : TblOk 4 4 nb_4_4 := by unfold TblOk; kernel_rfl
theorem hasT_4_4 : hasTT nb_4_4 4 4 = true := by kernel_rfl
theorem has_4_4 : hasT 4 4 = true := (hasTT_eq nb_4_4_ok).trans hasT_4_4
def nb_4_5 : List (List Nat) := [[7, 11], [8, 10, 12], [5, 9, 11, 13], [6, 12, 14], [7, 13], [2, 12, 16], [3, 13, 15, 17], [0, 4, 10, 14, 16, 18], [1, 11, 17, 19], [2, 12, 18], [1, 7, 17], [0, 2, 8, 18], [1, 3, 5, 9, 15, 19], [2, 4, 6, 16], [3, 7, 17], [6, 12], [5, 7, 13], [6, 8, 10, 14], [7, 9, 11], [8, 12]]
theorem nb_4_5_ok : TblOk 4 5 nb_4_5 := by unfold TblOk; kernel_rfl
theorem hasT_4_5 : hasTT nb_4_5 4 5 = true := by kernel_rfl
theorem has_4_5 : hasT 4 5 = true := (hasTT_eq nb_4_5_ok).trans hasT_4_5
def nb_4_6 : List (List Nat) := [[8, 13], [9, 12, 14], [6, 10, 13, 15], [7, 11, 14, 16], [8, 15, 17], [9, 16], [2, 14, 19], [3, 15, 18, 20], [0, 4, 12, 16, 19, 21], [1, 5, 13, 17, 20, 22], [2, 14, 21, 23], [3, 15, 22], [1, 8, 20], [0, 2, 9, 21], [1, 3, 6, 10, 18, 22], [2, 4, 7, 11, 19, 23], [3, 5, 8, 20], [4, 9, 21], [7, 14], [6, 8, 15], [7, 9, 12, 16], [8, 10, 13, 17], [9, 11, 14], [10, 15]]
theorem nb_4_6_ok : TblOk 4 6 nb_4_6 := by unfold TblOk; kernel_rfl
theorem hasT_4_6 : hasTT nb_4_6 4 6 = true := by kernel_rfl
theorem has_4_6 : hasT 4 6 = true := (hasTT_eq nb_4_6_ok).trans hasT_4_6
def nb_4_7 : List (List Nat) := [[9, 15], [10, 14, 16], [7, 11, 15, 17], [8, 12, 16, 18], [9, 13, 17, 19], [10, 18, 20], [11, 19], [2, 16, 22], [3, 17, 21, 23], [0, 4, 14, 18, 22, 24], [1, 5, 15, 19, 23, 25], [2, 6, 16, 20, 24, 26], [3, 17, 25, 27], [4, 18, 26], [1, 9, 23], [0, 2, 10, 24], [1, 3, 7, 11, 21, 25], [2, 4, 8, 12, 22, 26], [3, 5, 9, 13, 23, 27], [4, 6, 10, 24], [5, 11, 25], [8, 16], [7, 9, 17], [8, 10, 14, 18], [9, 11, 15, 19], [10, 12, 16, 20], [11, 13, 17], [12, 18]]
theorem nb_4_7_ok : TblOk 4 7 nb_4_7 := by unfold TblOk; kernel_rfl
theorem hasT_4_7 : hasTT nb_4_7 4 7 = true := by kernel_rfl
theorem has_4_7 : hasT 4 7 = true := (hasTT_eq nb_4_7_ok).trans hasT_4_7
def nb_4_8 : List (List Nat) := [[10, 17], [11, 16, 18], [8, 12, 17, 19], [9, 13, 18, 20], [10, 14, 19, 21], [11, 15, 20, 22], [12, 21, 23], [13, 22], [2, 18, 25], [3, 19, 24, 26], [0, 4, 16, 20, 25, 27], [1, 5, 17, 21, 26, 28], [2, 6, 18, 22, 27, 29], [3, 7, 19, 23, 28, 30], [4, 20, 29, 31], [5, 21, 30], [1, 10, 26], [0, 2, 11, 27], [1, 3, 8, 12, 24, 28], [2, 4, 9, 13, 25, 29], [3, 5, 10, 14, 26, 30], [4, 6, 11, 15, 27, 31], [5, 7, 12, 28], [6, 13, 29], [9, 18], [8, 10, 19], [9, 11, 16, 20], [10, 12, 17, 21], [11, 13, 18, 22], [12, 14, 19, 23], [13, 15, 20], [14, 21]]
theorem nb_4_8_ok : TblOk 4 8 nb_4_8 := by unfold TblOk; kernel_rfl
theorem hasT_4_8 : hasTT nb_4_8 4 8 = true := by kernel_rfl
theorem has_4_8 : hasT 4 8 = true := (hasTT_eq nb_4_8_ok).trans hasT_4_8

end Go.Proofs.Tryd.Dn

