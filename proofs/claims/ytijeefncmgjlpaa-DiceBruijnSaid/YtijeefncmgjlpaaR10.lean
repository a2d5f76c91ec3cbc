/-
  Dice: sums: the law run.
-/
import Derived.Test.YtijeefncmgjlpaaT6
import Derived.Test.YtijeefncmgjlpaaR6
import Derived.Test.YtijeefncmgjlpaaEa
set_option linter.unusedSimpArgs false
set_option linter.unusedVariables false

set_option maxHeartbeats 4000000
set_option maxRecDepth 100000
namespace Go.Proofs.Try.Dn
open Go.Dn

theorem eqA2 {pg : Pg} (a b : Int) (H : Heap) : dkc pg (den pg) (.eqA true [true, true]) [.agg [.i .i64 a, .i .i64 b], .agg [.i .i64 a, .i .i64 b]] H = some (.b false, H) := by
  rw [gX11]
  simp [eqL, eqS, up, negb]

theorem ixQ {pg : Pg} {H : Heap} {l : List (Int × Int)} {i : Nat} {x : Int × Int} (hx : l[i]? = some x) : ∃ p, dkc pg (den pg) (.ixS 2 true) [elQ.lt false l, .i .i64 (i : Int)] H = some (p, H) ∧ dkc pg (den pg) (.ld 2 true) [p] H = some (.agg [.i .i64 x.1, .i .i64 x.2], H) := by
  obtain ⟨p, h1, h2, _⟩ := (ltV elQ false H l).ix (pg := pg) (R := den pg) hx .i64
  exact ⟨p, h1, h2.ld⟩

theorem lnE {α : Type} (E : El α) (l : List α) (K : Heap) : (lenK 0 (E.lt false l) K).map (fun (n : Nat) => TV.i .i64 (n : Int)) = some (.i .i64 (l.length : Int)) := by
  rw [(ltV E false K l).lenK]; rfl

end Go.Proofs.Try.Dn

