/-
  Knight: one call's answer, evaluated.
-/
import Derived.Test.YtdjbpmgbaggfbaaDoorKg

namespace Go.Proofs.Tryd.Dn
open Go.Dn

theorem aq2 : known (bodyRun pg0 (denN pg0 300) 20 [.i .i64 3,.i .i64 4] []) = some (.tup [.bs false 1 [.i .i64 0,.i .i64 6,.i .i64 8,.i .i64 1,.i .i64 7,.i .i64 9,.i .i64 2,.i .i64 4,.i .i64 10,.i .i64 3,.i .i64 5,.i .i64 11],.b true,.i .i64 0]) := by kernel_rfl

end Go.Proofs.Tryd.Dn

