/-
  Knight: which boards have tours: all boards.
-/
import Derived.Test.YtdjbpmgbaggfbaaDoorKfs
set_option linter.unusedVariables false

namespace Go.Proofs.Tryd.Dn
open Go.Dn

def witC : List (Nat × Nat × Nat × List Nat) := [(5, 6, 0, [8, 4, 17, 28, 15, 23, 27, 19, 6, 2, 10, 21, 29, 16, 5, 9, 1, 12, 25, 14, 3, 11, 22, 26, 18, 7, 20, 24, 13]), (6, 5, 0, [7, 4, 13, 24, 27, 20, 17, 14, 3, 6, 15, 26, 23, 16, 25, 22, 29, 18, 9, 2, 5, 12, 1, 10, 21, 28, 19, 8, 11]), (6, 6, 0, [8, 4, 17, 28, 32, 24, 20, 12, 1, 9, 5, 16, 29, 33, 25, 21, 34, 23, 10, 2, 6, 14, 3, 7, 18, 31, 27, 35, 22, 11, 15, 19, 30, 26, 13])]
theorem witC_ok : (witC.all fun w => complB w.2.1 w.2.2.1 true w.2.2.1 (allBut (w.1 * w.2.1) w.2.2.1) w.2.2.2) = true := by kernel_rfl
theorem tbl_3_8 : tbl 3 8 = [(0, 132096), (1, 329728), (2, 659712), (3, 1319424), (4, 2638848), (5, 5277696), (6, 10489856), (7, 4202496), (8, 262148), (9, 524296), (10, 1114129), (11, 2228258), (12, 4456516), (13, 8913032), (14, 1048592), (15, 2097184), (16, 1026), (17, 2053), (18, 4362), (19, 8724), (20, 17448), (21, 34896), (22, 4256), (23, 8256)] := by kernel_rfl
theorem tbl_8_3 : tbl 8 3 = [(0, 160), (1, 320), (2, 136), (3, 1284), (4, 2560), (5, 1089), (6, 10274), (7, 20485), (8, 8714), (9, 82192), (10, 163880), (11, 69712), (12, 657536), (13, 1311040), (14, 557696), (15, 5260288), (16, 10488320), (17, 4461568), (18, 8527872), (19, 20480), (20, 2138112), (21, 1114112), (22, 163840), (23, 327680)] := by kernel_rfl
theorem noC_3_8 : sr (tbl 3 8) (3 * 8) 0 true 40 0 (allBut (3 * 8) 0) = false := by rw [tbl_3_8]; kernel_rfl
theorem noC_8_3 : sr (tbl 8 3) (8 * 3) 0 true 40 0 (allBut (8 * 3) 0) = false := by rw [tbl_8_3]; kernel_rfl
theorem noC_1_2 : sr (tbl 1 2) (1 * 2) 0 true 40 0 (allBut (1 * 2) 0) = false := by kernel_rfl
theorem noC_2_1 : sr (tbl 2 1) (2 * 1) 0 true 40 0 (allBut (2 * 1) 0) = false := by kernel_rfl

end Go.Proofs.Tryd.Dn

