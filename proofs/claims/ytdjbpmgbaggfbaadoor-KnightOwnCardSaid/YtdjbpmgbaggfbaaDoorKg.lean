/-
  Knight: the program's variables; what a call answers, evaluated.
-/
import Derived.Test.YtdjbpmgbaggfbaaDoorKa
import Derived.WalkKit
set_option linter.unusedVariables false

namespace Go.Proofs.Tryd.Dn
open Go.Dn

def G0 : Nat → Option TV
  | 0 => some (.agg (deB.map fun n => .i .u8 n))
  | _ => none

def pg0 : Pg := ⟨tab.look, G0, fun _ _ => none⟩

theorem mixed : Tryd.prog.follows .mixedOrders = true := by kernel_rfl

theorem good0 : CodeOk Tryd.prog pg0 1 (den pg0) := den_sound mixed (Tab.fns tab_ok) (SumOk.none _ _)

def known : Option (TV × Heap) → Option TV
  | some (r, H) => snap .fin H 9 r
  | none => none

theorem known_iff {pg : Pg} {f n : Nat} {xs : List TV} {r : TV} (hS : pg.S f xs = none) (h : known (bodyRun pg (denN pg n) f xs []) = some r) : PFn pg f xs r := by
  unfold known at h
  split at h
  · rename_i r' H' h'
    exact .inr ⟨hS, r', H', Ans.of h', h⟩
  · cases h

end Go.Proofs.Tryd.Dn

