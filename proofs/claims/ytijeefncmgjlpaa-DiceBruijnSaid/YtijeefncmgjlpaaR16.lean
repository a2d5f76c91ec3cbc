/-
  Dice: Sicherman's law run.
-/
import Derived.Test.YtijeefncmgjlpaaTI
import Derived.Test.YtijeefncmgjlpaaR14
set_option linter.unusedSimpArgs false
set_option linter.unusedVariables false

set_option maxHeartbeats 4000000
set_option maxRecDepth 100000
namespace Go.Proofs.Try.Dn
open Go.Dn

theorem lt_cellsI (b : Bool) (x : List Int) : (elI.lt b x).cells = [elI.lt b x] := by cases x <;> rfl

theorem two_bs {pg : Pg} (b b' : Bool) (x y : List Int) (H : Heap) : dkc pg (den pg) (.bsl false [.nilsl] false 2 [0, 1]) [elI.lt b x, elI.lt b' y] H = some (.sl H.length 0 1 false 2 (some 2), H ++ [.cells [elI.lt b x, elI.lt b' y] false]) := by
  simp [dkc, dk, fillP, repl, put2, lt_cellsI, El.lt_one]

theorem two_sn {K : Heap} {id : Nat} {b b' : Bool} {x y : List Int} (h : K[id]? = some (.cells [elI.lt b x, elI.lt b' y] false)) : snap .borrow K 9 (.sl id 0 1 false 2 (some 2)) = some ((elR true).lt true [x, y]) := by
  have s8 : ∀ (c : Bool) (x : List Int) (K : Heap), snap .borrow K 8 (elI.lt c x) = some (elI.lt true x) := fun c x K => snap_ints c K 6 x
  rw [gXk2 _ (by decide), h, gXm2]
  simp [sn_i, sn_b, gXe2, gXf2, gXg2, gXh2, gXi2, gXj2, gXk2, gXl2, gXm2, gXn2, gXo2, gXp2, mapO, elems, s8]
  rfl

theorem cellLP {pg : Pg} {H : Heap} {l : List PL} {i : Nat} {x : PL} (hx : l[i]? = some x) : ∃ p, dkc pg (den pg) (.ixS 2 true) [LPv l, .i .i64 (i : Int)] H = some (p, H) ∧
    (∃ q, dkc pg (den pg) (.ixA 2 1 false) [p, .i .i64 0] H = some (q, H) ∧ dkc pg (den pg) (.ld 1 false) [q] H = some (elI.lt false x.1, H)) ∧
    ∃ q, dkc pg (den pg) (.ixA 2 1 false) [p, .i .i64 1] H = some (q, H) ∧ dkc pg (den pg) (.ld 1 false) [q] H = some (elI.lt false x.2, H) := by
  obtain ⟨p, h1, h2, _⟩ := (ltV elP false H l).ix (pg := pg) (R := den pg) hx .i64
  exact ⟨p, h1, h2.cell (j := 0) (v := elI.lt false x.1) rfl rfl .i64, h2.cell (j := 1) (v := elI.lt false x.2) rfl rfl .i64⟩

theorem lnP (l : List PL) (K : Heap) : (lenK 0 (LPv l) K).map (fun (n : Nat) => TV.i .i64 (n : Int)) = some (.i .i64 (l.length : Int)) := by
  unfold LPv; rw [(ltV elP false K l).lenK]; rfl

theorem ix0 {pg : Pg} {l : List Int} {d : Int} (hd : l[0]? = some d) (H : Heap) : ∃ p, dkc pg (den pg) (.ixS 1 false) [elI.lt false l, .i .i64 0] H = some (p, H) ∧ dkc pg (den pg) (.ld 1 false) [p] H = some (.i .i64 d, H) := by
  obtain ⟨p, p1, p2⟩ := ixI (pg := pg) (R := den pg) (ltV elI false H l) hd
  exact ⟨p, p1, p2⟩

end Go.Proofs.Try.Dn

