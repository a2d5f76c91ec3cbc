import Derived.Test.YtegihfgibonhpaaPegRs
set_option linter.unusedVariables false
namespace Go.Proofs.Try.Dn
open Go.Dn

theorem reiss9 : okO (runC pg2 (denN pg2 400) rest7 [(0, .i .i64 9)] []) = true := by kernel_rfl
theorem reiss10 : okO (runC pg2 (denN pg2 400) rest7 [(0, .i .i64 10)] []) = true := by kernel_rfl
theorem reiss11 : okO (runC pg2 (denN pg2 400) rest7 [(0, .i .i64 11)] []) = true := by kernel_rfl
theorem reiss12 : okO (runC pg2 (denN pg2 400) rest7 [(0, .i .i64 12)] []) = true := by kernel_rfl

end Go.Proofs.Try.Dn
