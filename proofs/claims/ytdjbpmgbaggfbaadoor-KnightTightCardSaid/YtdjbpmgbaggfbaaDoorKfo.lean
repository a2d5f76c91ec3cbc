/-
  Knight: tight sets on the boards, by the reference: the other boards.
-/
import Derived.Test.YtdjbpmgbaggfbaaDoorKfj
set_option linter.unusedVariables false

namespace Go.Proofs.Tryd.Dn
open Go.Dn
def nb_1_1 : List (List Nat) := [[]]
theorem nb_1_1_ok : TblOk 1 1 nb_1_1 := by unfold TblOk; kernel_rfl
theorem hasT_1_1 : hasTT nb_1_1 1 1 = true := by kernel_rfl
theorem has_1_1 : hasT 1 1 = true := (hasTT_eq nb_1_1_ok).trans hasT_1_1
def nb_1_2 : List (List Nat) := [[], []]
theorem nb_1_2_ok : TblOk 1 2 nb_1_2 := by unfold TblOk; kernel_rfl
theorem hasT_1_2 : hasTT nb_1_2 1 2 = false := by kernel_rfl
theorem has_1_2 : hasT 1 2 = false := (hasTT_eq nb_1_2_ok).trans hasT_1_2
def nb_1_3 : List (List Nat) := [[], [], []]
theorem nb_1_3_ok : TblOk 1 3 nb_1_3 := by unfold TblOk; kernel_rfl
theorem hasT_1_3 : hasTT nb_1_3 1 3 = true := by kernel_rfl
theorem has_1_3 : hasT 1 3 = true := (hasTT_eq nb_1_3_ok).trans hasT_1_3
def nb_1_4 : List (List Nat) := [[], [], [], []]
theorem nb_1_4_ok : TblOk 1 4 nb_1_4 := by unfold TblOk; kernel_rfl
theorem hasT_1_4 : hasTT nb_1_4 1 4 = true := by kernel_rfl
theorem has_1_4 : hasT 1 4 = true := (hasTT_eq nb_1_4_ok).trans hasT_1_4
def nb_1_5 : List (List Nat) := [[], [], [], [], []]
theorem nb_1_5_ok : TblOk 1 5 nb_1_5 := by unfold TblOk; kernel_rfl
theorem hasT_1_5 : hasTT nb_1_5 1 5 = true := by kernel_rfl
theorem has_1_5 : hasT 1 5 = true := (hasTT_eq nb_1_5_ok).trans hasT_1_5
def nb_1_6 : List (List Nat) := [[], [], [], [], [], []]
theorem nb_1_6_ok : TblOk 1 6 nb_1_6 := by unfold TblOk; kernel_rfl
theorem hasT_1_6 : hasTT nb_1_6 1 6 = true := by kernel_rfl
theorem has_1_6 : hasT 1 6 = true := (hasTT_eq nb_1_6_ok).trans hasT_1_6
def nb_1_7 : List (List Nat) := [[], [], [], [], [], [], []]
theorem nb_1_7_ok : TblOk 1 7 nb_1_7 := by unfold TblOk; kernel_rfl
theorem hasT_1_7 : hasTT nb_1_7 1 7 = true := by kernel_rfl
theorem has_1_7 : hasT 1 7 = true := (hasTT_eq nb_1_7_ok).trans hasT_1_7
def nb_1_8 : List (List Nat) := [[], [], [], [], [], [], [], []]
theorem nb_1_8_ok : TblOk 1 8 nb_1_8 := by unfold TblOk; kernel_rfl
theorem hasT_1_8 : hasTT nb_1_8 1 8 = true := by kernel_rfl
theorem has_1_8 : hasT 1 8 = true := (hasTT_eq nb_1_8_ok).trans hasT_1_8
def nb_2_1 : List (List Nat) := [[], []]
theorem nb_2_1_ok : TblOk 2 1 nb_2_1 := by unfold TblOk; kernel_rfl
theorem hasT_2_1 : hasTT nb_2_1 2 1 = false := by kernel_rfl
theorem has_2_1 : hasT 2 1 = false := (hasTT_eq nb_2_1_ok).trans hasT_2_1
def nb_2_2 : List (List Nat) := [[], [], [], []]
theorem nb_2_2_ok : TblOk 2 2 nb_2_2 := by unfold TblOk; kernel_rfl
theorem hasT_2_2 : hasTT nb_2_2 2 2 = true := by kernel_rfl
theorem has_2_2 : hasT 2 2 = true := (hasTT_eq nb_2_2_ok).trans hasT_2_2
def nb_2_3 : List (List Nat) := [[5], [], [3], [2], [], [0]]
theorem nb_2_3_ok : TblOk 2 3 nb_2_3 := by unfold TblOk; kernel_rfl
theorem hasT_2_3 : hasTT nb_2_3 2 3 = true := by kernel_rfl
theorem has_2_3 : hasT 2 3 = true := (hasTT_eq nb_2_3_ok).trans hasT_2_3
def nb_2_4 : List (List Nat) := [[6], [7], [4], [5], [2], [3], [0], [1]]
theorem nb_2_4_ok : TblOk 2 4 nb_2_4 := by unfold TblOk; kernel_rfl
theorem hasT_2_4 : hasTT nb_2_4 2 4 = true := by kernel_rfl
theorem has_2_4 : hasT 2 4 = true := (hasTT_eq nb_2_4_ok).trans hasT_2_4
def nb_2_5 : List (List Nat) := [[7], [8], [5, 9], [6], [7], [2], [3], [0, 4], [1], [2]]
theorem nb_2_5_ok : TblOk 2 5 nb_2_5 := by unfold TblOk; kernel_rfl
theorem hasT_2_5 : hasTT nb_2_5 2 5 = true := by kernel_rfl
theorem has_2_5 : hasT 2 5 = true := (hasTT_eq nb_2_5_ok).trans hasT_2_5
def nb_2_6 : List (List Nat) := [[8], [9], [6, 10], [7, 11], [8], [9], [2], [3], [0, 4], [1, 5], [2], [3]]
theorem nb_2_6_ok : TblOk 2 6 nb_2_6 := by unfold TblOk; kernel_rfl
theorem hasT_2_6 : hasTT nb_2_6 2 6 = true := by kernel_rfl
theorem has_2_6 : hasT 2 6 = true := (hasTT_eq nb_2_6_ok).trans hasT_2_6
def nb_2_7 : List (List Nat) := [[9], [10], [7, 11], [8, 12], [9, 13], [10], [11], [2], [3], [0, 4], [1, 5], [2, 6], [3], [4]]
theorem nb_2_7_ok : TblOk 2 7 nb_2_7 := by unfold TblOk; kernel_rfl
theorem hasT_2_7 : hasTT nb_2_7 2 7 = true := by kernel_rfl
theorem has_2_7 : hasT 2 7 = true := (hasTT_eq nb_2_7_ok).trans hasT_2_7
def nb_2_8 : List (List Nat) := [[10], [11], [8, 12], [9, 13], [10, 14], [11, 15], [12], [13], [2], [3], [0, 4], [1, 5], [2, 6], [3, 7], [4], [5]]
theorem nb_2_8_ok : TblOk 2 8 nb_2_8 := by unfold TblOk; kernel_rfl
theorem hasT_2_8 : hasTT nb_2_8 2 8 = true := by kernel_rfl
theorem has_2_8 : hasT 2 8 = true := (hasTT_eq nb_2_8_ok).trans hasT_2_8
def nb_3_1 : List (List Nat) := [[], [], []]
theorem nb_3_1_ok : TblOk 3 1 nb_3_1 := by unfold TblOk; kernel_rfl
theorem hasT_3_1 : hasTT nb_3_1 3 1 = true := by kernel_rfl
theorem has_3_1 : hasT 3 1 = true := (hasTT_eq nb_3_1_ok).trans hasT_3_1
def nb_3_2 : List (List Nat) := [[5], [4], [], [], [1], [0]]
theorem nb_3_2_ok : TblOk 3 2 nb_3_2 := by unfold TblOk; kernel_rfl
theorem hasT_3_2 : hasTT nb_3_2 3 2 = true := by kernel_rfl
theorem has_3_2 : hasT 3 2 = true := (hasTT_eq nb_3_2_ok).trans hasT_3_2
def nb_3_3 : List (List Nat) := [[5, 7], [6, 8], [3, 7], [2, 8], [], [0, 6], [1, 5], [0, 2], [1, 3]]
theorem nb_3_3_ok : TblOk 3 3 nb_3_3 := by unfold TblOk; kernel_rfl
theorem hasT_3_3 : hasTT nb_3_3 3 3 = true := by kernel_rfl
theorem has_3_3 : hasT 3 3 = true := (hasTT_eq nb_3_3_ok).trans hasT_3_3
def nb_3_4 : List (List Nat) := [[6, 9], [7, 8, 10], [4, 9, 11], [5, 10], [2, 10], [3, 11], [0, 8], [1, 9], [1, 6], [0, 2, 7], [1, 3, 4], [2, 5]]
theorem nb_3_4_ok : TblOk 3 4 nb_3_4 := by unfold TblOk; kernel_rfl
theorem hasT_3_4 : hasTT nb_3_4 3 4 = true := by kernel_rfl
theorem has_3_4 : hasT 3 4 = true := (hasTT_eq nb_3_4_ok).trans hasT_3_4
def nb_3_5 : List (List Nat) := [[7, 11], [8, 10, 12], [5, 9, 11, 13], [6, 12, 14], [7, 13], [2, 12], [3, 13], [0, 4, 10, 14], [1, 11], [2, 12], [1, 7], [0, 2, 8], [1, 3, 5, 9], [2, 4, 6], [3, 7]]
theorem nb_3_5_ok : TblOk 3 5 nb_3_5 := by unfold TblOk; kernel_rfl
theorem hasT_3_5 : hasTT nb_3_5 3 5 = true := by kernel_rfl
theorem has_3_5 : hasT 3 5 = true := (hasTT_eq nb_3_5_ok).trans hasT_3_5
def nb_3_6 : List (List Nat) := [[8, 13], [9, 12, 14], [6, 10, 13, 15], [7, 11, 14, 16], [8, 15, 17], [9, 16], [2, 14], [3, 15], [0, 4, 12, 16], [1, 5, 13, 17], [2, 14], [3, 15], [1, 8], [0, 2, 9], [1, 3, 6, 10], [2, 4, 7, 11], [3, 5, 8], [4, 9]]
theorem nb_3_6_ok : TblOk 3 6 nb_3_6 := by unfold TblOk; kernel_rfl
theorem hasT_3_6 : hasTT nb_3_6 3 6 = true := by kernel_rfl
theorem has_3_6 : hasT 3 6 = true := (hasTT_eq nb_3_6_ok).trans hasT_3_6
def nb_3_7 : List (List Nat) := [[9, 15], [10, 14, 16], [7, 11, 15, 17], [8, 12, 16, 18], [9, 13, 17, 19], [10, 18, 20], [11, 19], [2, 16], [3, 17], [0, 4, 14, 18], [1, 5, 15, 19], [2, 6, 16, 20], [3, 17], [4, 18], [1, 9], [0, 2, 10], [1, 3, 7, 11], [2, 4, 8, 12], [3, 5, 9, 13], [4, 6, 10], [5, 11]]
theorem nb_3_7_ok : TblOk 3 7 nb_3_7 := by unfold TblOk; kernel_rfl
theorem hasT_3_7 : hasTT nb_3_7 3 7 = true := by kernel_rfl
theorem has_3_7 : hasT 3 7 = true := (hasTT_eq nb_3_7_ok).trans hasT_3_7
def nb_5_1 : List (List Nat) := [[], [], [], [], []]
theorem nb_5_1_ok : TblOk 5 1 nb_5_1 := by unfold TblOk; kernel_rfl
theorem hasT_5_1 : hasTT nb_5_1 5 1 = true := by kernel_rfl
theorem has_5_1 : hasT 5 1 = true := (hasTT_eq nb_5_1_ok).trans hasT_5_1
def nb_5_2 : List (List Nat) := [[5], [4], [7], [6], [1, 9], [0, 8], [3], [2], [5], [4]]
theorem nb_5_2_ok : TblOk 5 2 nb_5_2 := by unfold TblOk; kernel_rfl
theorem hasT_5_2 : hasTT nb_5_2 5 2 = true := by kernel_rfl
theorem has_5_2 : hasT 5 2 = true := (hasTT_eq nb_5_2_ok).trans hasT_5_2
def nb_5_3 : List (List Nat) := [[5, 7], [6, 8], [3, 7], [2, 8, 10], [9, 11], [0, 6, 10], [1, 5, 11, 13], [0, 2, 12, 14], [1, 3, 9, 13], [4, 8, 14], [3, 5], [4, 6, 12], [7, 11], [6, 8], [7, 9]]
theorem nb_5_3_ok : TblOk 5 3 nb_5_3 := by unfold TblOk; kernel_rfl
theorem hasT_5_3 : hasTT nb_5_3 5 3 = true := by kernel_rfl
theorem has_5_3 : hasT 5 3 = true := (hasTT_eq nb_5_3_ok).trans hasT_5_3
def nb_5_4 : List (List Nat) := [[6, 9], [7, 8, 10], [4, 9, 11], [5, 10], [2, 10, 13], [3, 11, 12, 14], [0, 8, 13, 15], [1, 9, 14], [1, 6, 14, 17], [0, 2, 7, 15, 16, 18], [1, 3, 4, 12, 17, 19], [2, 5, 13, 18], [5, 10, 18], [4, 6, 11, 19], [5, 7, 8, 16], [6, 9, 17], [9, 14], [8, 10, 15], [9, 11, 12], [10, 13]]
theorem nb_5_4_ok : TblOk 5 4 nb_5_4 := by unfold TblOk; kernel_rfl
theorem hasT_5_4 : hasTT nb_5_4 5 4 = true := by kernel_rfl
theorem has_5_4 : hasT 5 4 = true := (hasTT_eq nb_5_4_ok).trans hasT_5_4
def nb_5_5 : List (List Nat) := [[7, 11], [8, 10, 12], [5, 9, 11, 13], [6, 12, 14], [7, 13], [2, 12, 16], [3, 13, 15, 17], [0, 4, 10, 14, 16, 18], [1, 11, 17, 19], [2, 12, 18], [1, 7, 17, 21], [0, 2, 8, 18, 20, 22], [1, 3, 5, 9, 15, 19, 21, 23], [2, 4, 6, 16, 22, 24], [3, 7, 17, 23], [6, 12, 22], [5, 7, 13, 23], [6, 8, 10, 14, 20, 24], [7, 9, 11, 21], [8, 12, 22], [11, 17], [10, 12, 18], [11, 13, 15, 19], [12, 14, 16], [13, 17]]
theorem nb_5_5_ok : TblOk 5 5 nb_5_5 := by unfold TblOk; kernel_rfl
theorem hasT_5_5 : hasTT nb_5_5 5 5 = true := by kernel_rfl
theorem has_5_5 : hasT 5 5 = true := (hasTT_eq nb_5_5_ok).trans hasT_5_5
def nb_5_7 : List (List Nat) := [[9, 15], [10, 14, 16], [7, 11, 15, 17], [8, 12, 16, 18], [9, 13, 17, 19], [10, 18, 20], [11, 19], [2, 16, 22], [3, 17, 21, 23], [0, 4, 14, 18, 22, 24], [1, 5, 15, 19, 23, 25], [2, 6, 16, 20, 24, 26], [3, 17, 25, 27], [4, 18, 26], [1, 9, 23, 29], [0, 2, 10, 24, 28, 30], [1, 3, 7, 11, 21, 25, 29, 31], [2, 4, 8, 12, 22, 26, 30, 32], [3, 5, 9, 13, 23, 27, 31, 33], [4, 6, 10, 24, 32, 34], [5, 11, 25, 33], [8, 16, 30], [7, 9, 17, 31], [8, 10, 14, 18, 28, 32], [9, 11, 15, 19, 29, 33], [10, 12, 16, 20, 30, 34], [11, 13, 17, 31], [12, 18, 32], [15, 23], [14, 16, 24], [15, 17, 21, 25], [16, 18, 22, 26], [17, 19, 23, 27], [18, 20, 24], [19, 25]]
theorem nb_5_7_ok : TblOk 5 7 nb_5_7 := by unfold TblOk; kernel_rfl
theorem hasT_5_7 : hasTT nb_5_7 5 7 = true := by kernel_rfl
theorem has_5_7 : hasT 5 7 = true := (hasTT_eq nb_5_7_ok).trans hasT_5_7
def nb_6_1 : List (List Nat) := [[], [], [], [], [], []]
theorem nb_6_1_ok : TblOk 6 1 nb_6_1 := by unfold TblOk; kernel_rfl
theorem hasT_6_1 : hasTT nb_6_1 6 1 = true := by kernel_rfl
theorem has_6_1 : hasT 6 1 = true := (hasTT_eq nb_6_1_ok).trans hasT_6_1
def nb_6_2 : List (List Nat) := [[5], [4], [7], [6], [1, 9], [0, 8], [3, 11], [2, 10], [5], [4], [7], [6]]
theorem nb_6_2_ok : TblOk 6 2 nb_6_2 := by unfold TblOk; kernel_rfl
theorem hasT_6_2 : hasTT nb_6_2 6 2 = true := by kernel_rfl
theorem has_6_2 : hasT 6 2 = true := (hasTT_eq nb_6_2_ok).trans hasT_6_2
def nb_6_3 : List (List Nat) := [[5, 7], [6, 8], [3, 7], [2, 8, 10], [9, 11], [0, 6, 10], [1, 5, 11, 13], [0, 2, 12, 14], [1, 3, 9, 13], [4, 8, 14, 16], [3, 5, 15, 17], [4, 6, 12, 16], [7, 11, 17], [6, 8], [7, 9, 15], [10, 14], [9, 11], [10, 12]]
theorem nb_6_3_ok : TblOk 6 3 nb_6_3 := by unfold TblOk; kernel_rfl
theorem hasT_6_3 : hasTT nb_6_3 6 3 = true := by kernel_rfl
theorem has_6_3 : hasT 6 3 = true := (hasTT_eq nb_6_3_ok).trans hasT_6_3
def nb_6_4 : List (List Nat) := [[6, 9], [7, 8, 10], [4, 9, 11], [5, 10], [2, 10, 13], [3, 11, 12, 14], [0, 8, 13, 15], [1, 9, 14], [1, 6, 14, 17], [0, 2, 7, 15, 16, 18], [1, 3, 4, 12, 17, 19], [2, 5, 13, 18], [5, 10, 18, 21], [4, 6, 11, 19, 20, 22], [5, 7, 8, 16, 21, 23], [6, 9, 17, 22], [9, 14, 22], [8, 10, 15, 23], [9, 11, 12, 20], [10, 13, 21], [13, 18], [12, 14, 19], [13, 15, 16], [14, 17]]
theorem nb_6_4_ok : TblOk 6 4 nb_6_4 := by unfold TblOk; kernel_rfl
theorem hasT_6_4 : hasTT nb_6_4 6 4 = true := by kernel_rfl
theorem has_6_4 : hasT 6 4 = true := (hasTT_eq nb_6_4_ok).trans hasT_6_4
def nb_7_1 : List (List Nat) := [[], [], [], [], [], [], []]
theorem nb_7_1_ok : TblOk 7 1 nb_7_1 := by unfold TblOk; kernel_rfl
theorem hasT_7_1 : hasTT nb_7_1 7 1 = true := by kernel_rfl
theorem has_7_1 : hasT 7 1 = true := (hasTT_eq nb_7_1_ok).trans hasT_7_1
def nb_7_2 : List (List Nat) := [[5], [4], [7], [6], [1, 9], [0, 8], [3, 11], [2, 10], [5, 13], [4, 12], [7], [6], [9], [8]]
theorem nb_7_2_ok : TblOk 7 2 nb_7_2 := by unfold TblOk; kernel_rfl
theorem hasT_7_2 : hasTT nb_7_2 7 2 = true := by kernel_rfl
theorem has_7_2 : hasT 7 2 = true := (hasTT_eq nb_7_2_ok).trans hasT_7_2
def nb_7_3 : List (List Nat) := [[5, 7], [6, 8], [3, 7], [2, 8, 10], [9, 11], [0, 6, 10], [1, 5, 11, 13], [0, 2, 12, 14], [1, 3, 9, 13], [4, 8, 14, 16], [3, 5, 15, 17], [4, 6, 12, 16], [7, 11, 17, 19], [6, 8, 18, 20], [7, 9, 15, 19], [10, 14, 20], [9, 11], [10, 12, 18], [13, 17], [12, 14], [13, 15]]
theorem nb_7_3_ok : TblOk 7 3 nb_7_3 := by unfold TblOk; kernel_rfl
theorem hasT_7_3 : hasTT nb_7_3 7 3 = true := by kernel_rfl
theorem has_7_3 : hasT 7 3 = true := (hasTT_eq nb_7_3_ok).trans hasT_7_3
def nb_7_4 : List (List Nat) := [[6, 9], [7, 8, 10], [4, 9, 11], [5, 10], [2, 10, 13], [3, 11, 12, 14], [0, 8, 13, 15], [1, 9, 14], [1, 6, 14, 17], [0, 2, 7, 15, 16, 18], [1, 3, 4, 12, 17, 19], [2, 5, 13, 18], [5, 10, 18, 21], [4, 6, 11, 19, 20, 22], [5, 7, 8, 16, 21, 23], [6, 9, 17, 22], [9, 14, 22, 25], [8, 10, 15, 23, 24, 26], [9, 11, 12, 20, 25, 27], [10, 13, 21, 26], [13, 18, 26], [12, 14, 19, 27], [13, 15, 16, 24], [14, 17, 25], [17, 22], [16, 18, 23], [17, 19, 20], [18, 21]]
theorem nb_7_4_ok : TblOk 7 4 nb_7_4 := by unfold TblOk; kernel_rfl
theorem hasT_7_4 : hasTT nb_7_4 7 4 = true := by kernel_rfl
theorem has_7_4 : hasT 7 4 = true := (hasTT_eq nb_7_4_ok).trans hasT_7_4
def nb_7_5 : List (List Nat) := [[7, 11], [8, 10, 12], [5, 9, 11, 13], [6, 12, 14], [7, 13], [2, 12, 16], [3, 13, 15, 17], [0, 4, 10, 14, 16, 18], [1, 11, 17, 19], [2, 12, 18], [1, 7, 17, 21], [0, 2, 8, 18, 20, 22], [1, 3, 5, 9, 15, 19, 21, 23], [2, 4, 6, 16, 22, 24], [3, 7, 17, 23], [6, 12, 22, 26], [5, 7, 13, 23, 25, 27], [6, 8, 10, 14, 20, 24, 26, 28], [7, 9, 11, 21, 27, 29], [8, 12, 22, 28], [11, 17, 27, 31], [10, 12, 18, 28, 30, 32], [11, 13, 15, 19, 25, 29, 31, 33], [12, 14, 16, 26, 32, 34], [13, 17, 27, 33], [16, 22, 32], [15, 17, 23, 33], [16, 18, 20, 24, 30, 34], [17, 19, 21, 31], [18, 22, 32], [21, 27], [20, 22, 28], [21, 23, 25, 29], [22, 24, 26], [23, 27]]
theorem nb_7_5_ok : TblOk 7 5 nb_7_5 := by unfold TblOk; kernel_rfl
theorem hasT_7_5 : hasTT nb_7_5 7 5 = true := by kernel_rfl
theorem has_7_5 : hasT 7 5 = true := (hasTT_eq nb_7_5_ok).trans hasT_7_5
def nb_8_1 : List (List Nat) := [[], [], [], [], [], [], [], []]
theorem nb_8_1_ok : TblOk 8 1 nb_8_1 := by unfold TblOk; kernel_rfl
theorem hasT_8_1 : hasTT nb_8_1 8 1 = true := by kernel_rfl
theorem has_8_1 : hasT 8 1 = true := (hasTT_eq nb_8_1_ok).trans hasT_8_1
def nb_8_2 : List (List Nat) := [[5], [4], [7], [6], [1, 9], [0, 8], [3, 11], [2, 10], [5, 13], [4, 12], [7, 15], [6, 14], [9], [8], [11], [10]]
theorem nb_8_2_ok : TblOk 8 2 nb_8_2 := by unfold TblOk; kernel_rfl
theorem hasT_8_2 : hasTT nb_8_2 8 2 = true := by kernel_rfl
theorem has_8_2 : hasT 8 2 = true := (hasTT_eq nb_8_2_ok).trans hasT_8_2
def nb_8_4 : List (List Nat) := [[6, 9], [7, 8, 10], [4, 9, 11], [5, 10], [2, 10, 13], [3, 11, 12, 14], [0, 8, 13, 15], [1, 9, 14], [1, 6, 14, 17], [0, 2, 7, 15, 16, 18], [1, 3, 4, 12, 17, 19], [2, 5, 13, 18], [5, 10, 18, 21], [4, 6, 11, 19, 20, 22], [5, 7, 8, 16, 21, 23], [6, 9, 17, 22], [9, 14, 22, 25], [8, 10, 15, 23, 24, 26], [9, 11, 12, 20, 25, 27], [10, 13, 21, 26], [13, 18, 26, 29], [12, 14, 19, 27, 28, 30], [13, 15, 16, 24, 29, 31], [14, 17, 25, 30], [17, 22, 30], [16, 18, 23, 31], [17, 19, 20, 28], [18, 21, 29], [21, 26], [20, 22, 27], [21, 23, 24], [22, 25]]
theorem nb_8_4_ok : TblOk 8 4 nb_8_4 := by unfold TblOk; kernel_rfl
theorem hasT_8_4 : hasTT nb_8_4 8 4 = true := by kernel_rfl
theorem has_8_4 : hasT 8 4 = true := (hasTT_eq nb_8_4_ok).trans hasT_8_4

end Go.Proofs.Tryd.Dn

