/-
  Knight: one call's answer, evaluated.
-/
import Derived.Test.YtdjbpmgbaggfbaaDoorKg

namespace Go.Proofs.Tryd.Dn
open Go.Dn

theorem aq7 : known (bodyRun pg0 (denN pg0 300) 26 [.i .i64 3,.i .i64 3,.i .i64 0,.i .i64 0,.i .i64 2] []) = some (.tup [.i .i64 2,.i .i64 0]) := by kernel_rfl

end Go.Proofs.Tryd.Dn

