/-
  Knight: one call's answer, evaluated.
-/
import Derived.Test.YtdjbpmgbaggfbaaDoorKg

namespace Go.Proofs.Tryd.Dn
open Go.Dn

theorem aq0 : known (bodyRun pg0 (denN pg0 300) 28 [.i .i64 3,.i .i64 3,.i .i64 4] []) = some (.tup [.nilsl,.i .i64 0]) := by kernel_rfl

end Go.Proofs.Tryd.Dn

