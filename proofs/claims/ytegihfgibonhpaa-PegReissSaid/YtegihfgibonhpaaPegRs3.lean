import Derived.Test.YtegihfgibonhpaaPegRs
set_option linter.unusedVariables false
namespace Go.Proofs.Try.Dn
open Go.Dn

theorem reiss15 : okO (runC pg2 (denN pg2 400) rest7 [(0, .i .i64 15)] []) = true := by kernel_rfl
theorem reiss16 : okO (runC pg2 (denN pg2 400) rest7 [(0, .i .i64 16)] []) = true := by kernel_rfl

end Go.Proofs.Try.Dn
