/-
  Dice: which die beats which: the law run.
-/
import Derived.Test.YtijeefncmgjlpaaEb
set_option linter.unusedSimpArgs false
set_option linter.unusedVariables false

namespace Go.Proofs.Try.Dn
open Go.Dn

theorem ltV {α : Type} (E : El α) (b : Bool) (H : Heap) (l : List α) : E.View H (E.lt b l) l := by
  cases l with
  | nil => exact .inl ⟨rfl, rfl⟩
  | cons x l => exact .inr (.inl ⟨b, rfl⟩)

theorem call28 {pg : Pg} (hF : Free pg) {T : TV} {l : List (List Int)} (hT : SSV T l) (hl : l.length ≤ 9223372036854775807) (hL : ∀ x ∈ l, x.length ≤ 9223372036854775807) {many most : Nat} (h1 : 1 ≤ many) (h6 : many ≤ 1000) (hm : most ≤ 1000) (H : Heap) :
    ∃ ls, Row most many ls ∧ callRun pg (den pg) (.pu []) [.fn 28 [] [], T, .i .i64 (many : Int), .i .i64 (most : Int)] H = some ((elR false).lt false ls, H) := by
  obtain ⟨T', s1, s2⟩ := hT.snap H 6
  obtain ⟨ls, O, ts, H', r1, r2, r3⟩ := body28 hF s2 hl hL h1 h6 hm
  refine ⟨ls, r2, PFn.call (xs := [T', .i .i64 (many : Int), .i .i64 (most : Int)]) (.inr ⟨hF.S _ _, O, H', r1, r3.fin (fun d hd he => by have := (r2.all d hd).pos; rw [he] at this; simp at this) 5⟩) (args := [T, .i .i64 (many : Int), .i .i64 (most : Int)]) (ks := []) (fs := []) (cs := []) (by simp [snapArgs, s1, sn_i])⟩

end Go.Proofs.Try.Dn

