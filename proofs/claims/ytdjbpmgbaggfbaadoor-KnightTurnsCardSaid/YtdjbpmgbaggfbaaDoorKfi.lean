/-
  Knight: the laws of quiet knights, run.
-/
import Derived.Test.YtdjbpmgbaggfbaaDoorKfg
import Derived.Test.YtdjbpmgbaggfbaaDoorKe
set_option linter.unusedSimpArgs false
set_option linter.unusedVariables false

namespace Go.Proofs.Tryd.Dn
open Go.Dn

theorem conv_remB (v : Int) {n : Nat} (hn : 1 ≤ n) (hb : n ≤ 9223372036854775807) : ∃ w m : Nat, wrapR .u64 v = .i .u64 (w : Int) ∧ binI .rem (.i .u64 (w : Int)) (.i .u64 (n : Int)) = some (.i .u64 (m : Int)) ∧ m < n ∧ wrapR .i64 (m : Int) = .i .i64 (m : Int) := by
  obtain ⟨w, hw⟩ : ∃ w : Nat, IntKind.wrap .u64 v = (w : Int) := ⟨(IntKind.wrap .u64 v).toNat, by simp only [IntKind.wrap, IntKind.signed, IntKind.bits, Bool.false_and, Bool.false_eq_true, if_false]; omega⟩
  have hm : w % n < n := Nat.mod_lt _ (by omega)
  refine ⟨w, w % n, by unfold wrapR; rw [hw], ?_, hm, wrapR_i64 (by omega)⟩
  rw [b_rem, if_neg (by omega), tmod_nat w n]

end Go.Proofs.Tryd.Dn

