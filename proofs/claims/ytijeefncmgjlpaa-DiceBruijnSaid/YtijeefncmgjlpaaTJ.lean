/-
  Even dice: as many as chains (reckoned).
-/
import Derived.Test.YtijeefncmgjlpaaTI
import Derived.Test.YtijeefncmgjlpaaEm
import Derived.Test.YtijeefncmgjlpaaTH
import Derived.WalkKit
set_option linter.unusedSimpArgs false
set_option linter.unusedVariables false

set_option maxHeartbeats 2000000
namespace Go.Proofs.Try.Dn
open Go.Dn

def evenC (n m : Nat) : List PL := match takesC (List.replicate (n * m) 1) 0 [0] with
  | some w => canP (growC n m 0 0 1001 [0] [0] w)
  | none => []

theorem sim_even (N : Nat) : Sim (oneM N) (List.replicate N 1) := by
  intro k
  unfold oneM
  rw [List.getD_eq_getElem?_getD, List.getElem?_replicate]
  by_cases h : 0 ≤ k
  · rw [if_pos h]
    by_cases h2 : k < (N : Int)
    · rw [if_pos ⟨h, h2⟩, if_pos (by omega)]
    · rw [if_neg (by omega), if_neg (by omega)]
  · rw [if_neg h, if_neg (by omega)]; rfl

theorem evenC_eq {n m : Nat} (hn : 1 ≤ n) (hm : 1 ≤ m) : evenL n m = evenC n m := by
  have h1 : 1 ≤ n * m := Nat.mul_le_mul hn hm
  unfold evenL evenC
  cases ht : takesC (List.replicate (n * m) 1) 0 [0] with
  | none =>
    exfalso
    generalize n * m = N at *
    obtain ⟨N, rfl⟩ : ∃ K, N = K + 1 := ⟨N - 1, by omega⟩
    simp [takesC, List.replicate_succ] at ht
  | some w => rw [pairsC_eq (sim_even (n * m)) ht]

theorem ec_1_1 : (evenC 1 1).length = chC 1 1 := by kernel_rfl
theorem ec_1_2 : (evenC 1 2).length = chC 1 2 := by kernel_rfl
theorem ec_1_3 : (evenC 1 3).length = chC 1 3 := by kernel_rfl
theorem ec_1_4 : (evenC 1 4).length = chC 1 4 := by kernel_rfl
theorem ec_1_5 : (evenC 1 5).length = chC 1 5 := by kernel_rfl
theorem ec_1_6 : (evenC 1 6).length = chC 1 6 := by kernel_rfl
theorem ec_1_7 : (evenC 1 7).length = chC 1 7 := by kernel_rfl
theorem ec_1_8 : (evenC 1 8).length = chC 1 8 := by kernel_rfl
theorem ec_2_1 : (evenC 2 1).length = chC 2 1 := by kernel_rfl
theorem ec_2_2 : (evenC 2 2).length = chC 2 2 := by kernel_rfl
theorem ec_2_3 : (evenC 2 3).length = chC 2 3 := by kernel_rfl
theorem ec_2_4 : (evenC 2 4).length = chC 2 4 := by kernel_rfl
theorem ec_2_5 : (evenC 2 5).length = chC 2 5 := by kernel_rfl
theorem ec_2_6 : (evenC 2 6).length = chC 2 6 := by kernel_rfl
theorem ec_2_7 : (evenC 2 7).length = chC 2 7 := by kernel_rfl
theorem ec_2_8 : (evenC 2 8).length = chC 2 8 := by kernel_rfl
theorem ec_3_1 : (evenC 3 1).length = chC 3 1 := by kernel_rfl
theorem ec_3_2 : (evenC 3 2).length = chC 3 2 := by kernel_rfl
theorem ec_3_3 : (evenC 3 3).length = chC 3 3 := by kernel_rfl
theorem ec_3_4 : (evenC 3 4).length = chC 3 4 := by kernel_rfl
theorem ec_3_5 : (evenC 3 5).length = chC 3 5 := by kernel_rfl
theorem ec_3_6 : (evenC 3 6).length = chC 3 6 := by kernel_rfl
theorem ec_3_7 : (evenC 3 7).length = chC 3 7 := by kernel_rfl
theorem ec_3_8 : (evenC 3 8).length = chC 3 8 := by kernel_rfl
theorem ec_4_1 : (evenC 4 1).length = chC 4 1 := by kernel_rfl
theorem ec_4_2 : (evenC 4 2).length = chC 4 2 := by kernel_rfl
theorem ec_4_3 : (evenC 4 3).length = chC 4 3 := by kernel_rfl
theorem ec_4_4 : (evenC 4 4).length = chC 4 4 := by kernel_rfl
theorem ec_4_5 : (evenC 4 5).length = chC 4 5 := by kernel_rfl
theorem ec_4_6 : (evenC 4 6).length = chC 4 6 := by kernel_rfl
theorem ec_4_7 : (evenC 4 7).length = chC 4 7 := by kernel_rfl
theorem ec_4_8 : (evenC 4 8).length = chC 4 8 := by kernel_rfl
theorem ec_5_1 : (evenC 5 1).length = chC 5 1 := by kernel_rfl
theorem ec_5_2 : (evenC 5 2).length = chC 5 2 := by kernel_rfl
theorem ec_5_3 : (evenC 5 3).length = chC 5 3 := by kernel_rfl
theorem ec_5_4 : (evenC 5 4).length = chC 5 4 := by kernel_rfl
theorem ec_5_5 : (evenC 5 5).length = chC 5 5 := by kernel_rfl
theorem ec_5_6 : (evenC 5 6).length = chC 5 6 := by kernel_rfl
theorem ec_5_7 : (evenC 5 7).length = chC 5 7 := by kernel_rfl
theorem ec_5_8 : (evenC 5 8).length = chC 5 8 := by kernel_rfl
theorem ec_6_1 : (evenC 6 1).length = chC 6 1 := by kernel_rfl
theorem ec_6_2 : (evenC 6 2).length = chC 6 2 := by kernel_rfl
theorem ec_6_3 : (evenC 6 3).length = chC 6 3 := by kernel_rfl
theorem ec_6_4 : (evenC 6 4).length = chC 6 4 := by kernel_rfl
theorem ec_6_5 : (evenC 6 5).length = chC 6 5 := by kernel_rfl
theorem ec_6_6 : (evenC 6 6).length = chC 6 6 := by kernel_rfl
theorem ec_6_7 : (evenC 6 7).length = chC 6 7 := by kernel_rfl
theorem ec_6_8 : (evenC 6 8).length = chC 6 8 := by kernel_rfl
theorem ec_7_1 : (evenC 7 1).length = chC 7 1 := by kernel_rfl
theorem ec_7_2 : (evenC 7 2).length = chC 7 2 := by kernel_rfl
theorem ec_7_3 : (evenC 7 3).length = chC 7 3 := by kernel_rfl
theorem ec_7_4 : (evenC 7 4).length = chC 7 4 := by kernel_rfl
theorem ec_7_5 : (evenC 7 5).length = chC 7 5 := by kernel_rfl
theorem ec_7_6 : (evenC 7 6).length = chC 7 6 := by kernel_rfl
theorem ec_7_7 : (evenC 7 7).length = chC 7 7 := by kernel_rfl
theorem ec_7_8 : (evenC 7 8).length = chC 7 8 := by kernel_rfl
theorem ec_8_1 : (evenC 8 1).length = chC 8 1 := by kernel_rfl
theorem ec_8_2 : (evenC 8 2).length = chC 8 2 := by kernel_rfl
theorem ec_8_3 : (evenC 8 3).length = chC 8 3 := by kernel_rfl
theorem ec_8_4 : (evenC 8 4).length = chC 8 4 := by kernel_rfl
theorem ec_8_5 : (evenC 8 5).length = chC 8 5 := by kernel_rfl
theorem ec_8_6 : (evenC 8 6).length = chC 8 6 := by kernel_rfl
theorem ec_8_7 : (evenC 8 7).length = chC 8 7 := by kernel_rfl
theorem ec_8_8 : (evenC 8 8).length = chC 8 8 := by kernel_rfl

theorem evenL_len {n m : Nat} (hn : 1 ≤ n ∧ n ≤ 8) (hm : 1 ≤ m ∧ m ≤ 8) : (evenL n m).length = chC n m := by
  rw [evenC_eq hn.1 hm.1]
  have h1 : n = 1 ∨ n = 2 ∨ n = 3 ∨ n = 4 ∨ n = 5 ∨ n = 6 ∨ n = 7 ∨ n = 8 := by omega
  have h2 : m = 1 ∨ m = 2 ∨ m = 3 ∨ m = 4 ∨ m = 5 ∨ m = 6 ∨ m = 7 ∨ m = 8 := by omega
  rcases h1 with rfl | rfl | rfl | rfl | rfl | rfl | rfl | rfl
  · rcases h2 with rfl | rfl | rfl | rfl | rfl | rfl | rfl | rfl
    · exact ec_1_1
    · exact ec_1_2
    · exact ec_1_3
    · exact ec_1_4
    · exact ec_1_5
    · exact ec_1_6
    · exact ec_1_7
    · exact ec_1_8
  · rcases h2 with rfl | rfl | rfl | rfl | rfl | rfl | rfl | rfl
    · exact ec_2_1
    · exact ec_2_2
    · exact ec_2_3
    · exact ec_2_4
    · exact ec_2_5
    · exact ec_2_6
    · exact ec_2_7
    · exact ec_2_8
  · rcases h2 with rfl | rfl | rfl | rfl | rfl | rfl | rfl | rfl
    · exact ec_3_1
    · exact ec_3_2
    · exact ec_3_3
    · exact ec_3_4
    · exact ec_3_5
    · exact ec_3_6
    · exact ec_3_7
    · exact ec_3_8
  · rcases h2 with rfl | rfl | rfl | rfl | rfl | rfl | rfl | rfl
    · exact ec_4_1
    · exact ec_4_2
    · exact ec_4_3
    · exact ec_4_4
    · exact ec_4_5
    · exact ec_4_6
    · exact ec_4_7
    · exact ec_4_8
  · rcases h2 with rfl | rfl | rfl | rfl | rfl | rfl | rfl | rfl
    · exact ec_5_1
    · exact ec_5_2
    · exact ec_5_3
    · exact ec_5_4
    · exact ec_5_5
    · exact ec_5_6
    · exact ec_5_7
    · exact ec_5_8
  · rcases h2 with rfl | rfl | rfl | rfl | rfl | rfl | rfl | rfl
    · exact ec_6_1
    · exact ec_6_2
    · exact ec_6_3
    · exact ec_6_4
    · exact ec_6_5
    · exact ec_6_6
    · exact ec_6_7
    · exact ec_6_8
  · rcases h2 with rfl | rfl | rfl | rfl | rfl | rfl | rfl | rfl
    · exact ec_7_1
    · exact ec_7_2
    · exact ec_7_3
    · exact ec_7_4
    · exact ec_7_5
    · exact ec_7_6
    · exact ec_7_7
    · exact ec_7_8
  · rcases h2 with rfl | rfl | rfl | rfl | rfl | rfl | rfl | rfl
    · exact ec_8_1
    · exact ec_8_2
    · exact ec_8_3
    · exact ec_8_4
    · exact ec_8_5
    · exact ec_8_6
    · exact ec_8_7
    · exact ec_8_8

end Go.Proofs.Try.Dn

