import Derived.Test.YtegihfgibonhpaaPegRs
set_option linter.unusedVariables false
namespace Go.Proofs.Try.Dn
open Go.Dn

theorem reiss1 : okO (runC pg2 (denN pg2 400) rest7 [(0, .i .i64 1)] []) = true := by kernel_rfl
theorem reiss2 : okO (runC pg2 (denN pg2 400) rest7 [(0, .i .i64 2)] []) = true := by kernel_rfl
theorem reiss3 : okO (runC pg2 (denN pg2 400) rest7 [(0, .i .i64 3)] []) = true := by kernel_rfl
theorem reiss4 : okO (runC pg2 (denN pg2 400) rest7 [(0, .i .i64 4)] []) = true := by kernel_rfl
theorem reiss5 : okO (runC pg2 (denN pg2 400) rest7 [(0, .i .i64 5)] []) = true := by kernel_rfl
theorem reiss6 : okO (runC pg2 (denN pg2 400) rest7 [(0, .i .i64 6)] []) = true := by kernel_rfl
theorem reiss7 : okO (runC pg2 (denN pg2 400) rest7 [(0, .i .i64 7)] []) = true := by kernel_rfl
theorem reiss8 : okO (runC pg2 (denN pg2 400) rest7 [(0, .i .i64 8)] []) = true := by kernel_rfl

end Go.Proofs.Try.Dn
