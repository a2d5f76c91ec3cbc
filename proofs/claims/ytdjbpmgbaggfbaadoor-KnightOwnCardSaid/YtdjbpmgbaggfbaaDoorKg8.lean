/-
  Knight: one call's answer, evaluated.
-/
import Derived.Test.YtdjbpmgbaggfbaaDoorKg

namespace Go.Proofs.Tryd.Dn
open Go.Dn

theorem aq8 : known (bodyRun pg0 (denN pg0 300) 58 [.i .i64 0,.i .i64 1] []) = some (.i .i64 1) := by kernel_rfl

end Go.Proofs.Tryd.Dn

