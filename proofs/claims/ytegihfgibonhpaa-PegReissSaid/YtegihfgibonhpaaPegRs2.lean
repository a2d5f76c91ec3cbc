import Derived.Test.YtegihfgibonhpaaPegRs
set_option linter.unusedVariables false
namespace Go.Proofs.Try.Dn
open Go.Dn

theorem reiss13 : okO (runC pg2 (denN pg2 400) rest7 [(0, .i .i64 13)] []) = true := by kernel_rfl
theorem reiss14 : okO (runC pg2 (denN pg2 400) rest7 [(0, .i .i64 14)] []) = true := by kernel_rfl

end Go.Proofs.Try.Dn
