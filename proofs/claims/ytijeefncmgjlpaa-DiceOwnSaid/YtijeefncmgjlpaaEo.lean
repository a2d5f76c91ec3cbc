/-
  Dice: Ring's answer, evaluated.
-/
import Derived.Test.YtijeefncmgjlpaaEl
import Derived.Test.YtijeefncmgjlpaaEn
set_option linter.unusedSimpArgs false
set_option linter.unusedVariables false

namespace Go.Proofs.Try.Dn
open Go.Dn

theorem aq35 : known (bodyRun pg0 (denN pg0 100) 35 [.bs true 1 [.bs true 1 [.i .i64 2, .i .i64 4, .i .i64 9], .bs true 1 [.i .i64 1, .i .i64 6, .i .i64 8], .bs true 1 [.i .i64 3, .i .i64 5, .i .i64 7]]] []) = some (.tup [.bs false 1 [.i .i64 0, .i .i64 1, .i .i64 2], .b true, .i .i64 0]) := by kernel_rfl

end Go.Proofs.Try.Dn

/-
 Dice: Orders' answer, evaluated.
-/

namespace Go.Proofs.Try.Dn
open Go.Dn

theorem aq41 : known (bodyRun pg0 (denN pg0 100) 41 [.bs true 1 [.bs true 1 [.i .i64 0], .bs true 1 [.i .i64 1]]] []) = some (.tup [.bs false 1 [.i .i64 1, .i .i64 0], .i .i64 0]) := by kernel_rfl

end Go.Proofs.Try.Dn

/-
 Dice: awake says yes.
-/

namespace Go.Proofs.Try.Dn
open Go.Dn

theorem aq55 : known (bodyRun pg0 (denN pg0 100) 55 [.nilsl] []) = some (.i .i64 10) := by kernel_rfl

theorem LPv_len {l : List PL} {n : Nat} (h : l.length = n) (K : Heap) : lenK 0 (LPv l) K = some n := by
 rw [<- h]; exact El.lt_len false l K

theorem q0 : pg0.Q 81 = some 2 := by
 show (if 81 = 81 \/ 81 = 96 then some 2 else none) = some 2
 rw [if_pos (.inl rfl)]
theorem q1 : pg0.Q 96 = some 2 := by
 show (if 96 = 81 \/ 96 = 96 then some 2 else none) = some 2
 rw [if_pos (.inr rfl)]

theorem awake : PFn pg0 23 [] (.b true) := by
 have hS : SSV vS66 [six, six] := elR_SSV true true [six, six]
 have h6 : SV vS6 six := .inr ⟨true, rfl⟩
 have hc : chkD [six, six] = 0 := by decide
 have hn : ∀ f xs, pg0.S f xs = none := fun _ _ => rfl
 have h42 := fn42 free0 hS hc
 have h47 := fn47 free0 hS hc 7
 have h20 := fn20 free0 q0 h6 h6 hc
 have h24 := fn24 free0 q0 (n := 2) (m := 2) (by omega) (by omega)
 have h35 := known_iff (hn _ _) aq35
 have h25 := known_iff (hn _ _) aq25
 have h41 := known_iff (hn _ _) aq41
 have h55 := known_iff (hn _ _) aq55
 rw [show lenP [six, six] = 36 by decide] at h42
 rw [show wn [six, six] 7 = 6 by decide] at h47
 exact aw free0 (LPv_len twins_six) (LPv_len even_two) h42 h47 h20 h35 h24 h25 h41 h55

end Go.Proofs.Try.Dn

