/-
  Dice: which die beats which: the law run.
-/
import Derived.Test.YtijeefncmgjlpaaEb
set_option linter.unusedSimpArgs false
set_option linter.unusedVariables false

namespace Go.Proofs.Try.Dn
open Go.Dn

theorem ltV {α : Type} (E : El α) (b : Bool) (H : Heap) (l : List α) : E.View H (E.lt b l) l := by
 cases l with
 | nil => exact .inl ⟨rfl, rfl⟩
 | cons x l => exact .inr (.inl ⟨b, rfl⟩)

theorem ixRw {pg : Pg} {H : Heap} {b : Bool} {l : List (List Bool)} {i : Nat} {x : List Bool} (hx : l[i]? = some x) : ∃ p, dkc pg (den pg) (.ixS 1 false) [(elRw elB b).lt b l, .i .i64 (i : Int)] H = some (p, H) /\ dkc pg (den pg) (.ld 1 false) [p] H = some (elB.lt b x, H) := by
 obtain ⟨p, h1, h2, _⟩ := (ltV (elRw elB b) b H l).ix (pg := pg) (R := den pg) hx .i64
 exact ⟨p, h1, h2.ld⟩
theorem ixBo {pg : Pg} {H : Heap} {b : Bool} {l : List Bool} {i : Nat} {x : Bool} (hx : l[i]? = some x) : ∃ p, dkc pg (den pg) (.ixS 1 false) [elB.lt b l, .i .i64 (i : Int)] H = some (p, H) /\ dkc pg (den pg) (.ld 1 false) [p] H = some (.b x, H) := by
 obtain ⟨p, h1, h2, _⟩ := (ltV elB b H l).ix (pg := pg) (R := den pg) hx .i64
 exact ⟨p, h1, h2.ld⟩

theorem call28 {pg : Pg} (hF : Free pg) {T : TV} {l : List (List Int)} (hT : SSV T l) (hl : l.length <= 9223372036854775807) (hL : ∀ x ∈ l, x.length <= 9223372036854775807) {many most : Nat} (h1 : 1 <= many) (h6 : many <= 1000) (hm : most <= 1000) (H : Heap) :
  ∃ ls, Row most many ls /\ callRun pg (den pg) (.pu []) [.fn 28 [] [], T, .i .i64 (many : Int), .i .i64 (most : Int)] H = some ((elR false).lt false ls, H) := by
 obtain ⟨T', s1, s2⟩ := hT.snap H 6
 obtain ⟨ls, O, ts, H', r1, r2, r3⟩ := body28 hF s2 hl hL h1 h6 hm
 refine ⟨ls, r2, PFn.call (xs := [T', .i .i64 (many : Int), .i .i64 (most : Int)]) (.inr ⟨hF.S _ _, O, H', r1, r3.fin (fun d hd he => by have := (r2.all d hd).pos; rw [he] at this; simp at this) 5⟩) (args := [T, .i .i64 (many : Int), .i .i64 (most : Int)]) (ks := []) (fs := []) (cs := []) (by simp [snapArgs, s1, sn_i])⟩

end Go.Proofs.Try.Dn

