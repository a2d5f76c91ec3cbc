/-
  Knight: one call's answer, evaluated.
-/
import Derived.Test.YtdjbpmgbaggfbaaDoorKg

namespace Go.Proofs.Tryd.Dn
open Go.Dn

theorem aq6 : known (bodyRun pg0 (denN pg0 300) 45 [.i .i64 3,.i .i64 4] []) = some (.tup [.i .i64 2650,.i .i64 6,.i .i64 0]) := by kernel_rfl

end Go.Proofs.Tryd.Dn

