/-
  Observations turned round: in plain terms.
-/
import Derived.Test.YtgmlmmgpcbollaaDoorQq
set_option linter.unusedSimpArgs false
set_option linter.unusedVariables false

namespace Go.Proofs.Tryd.Dn
open Go.Dn

def maxF (l : List Int) : Int := l.foldl (fun m p => if p > m then p else m) 0

/-- how often the prices of an observation are taken -/
def tmO (b : Int) (x : Obs) : Int := 1 + (IntKind.wrap .u64 b).tmod (Int.tdiv 20 (maxF x.1))

def turnO (t : Int) (x : Obs) : Obs := ((x.1.map (t * ·)).reverse, x.2.reverse)

def turned (b : Int) (X : List Obs) : List Obs := X.map fun x => turnO (tmO b x) x
/-! the same observations in another order -/

end Go.Proofs.Tryd.Dn

/-
  PriceTurned: the loops.
-/

namespace Go.Proofs.Tryd.Dn
open Go.Dn

theorem NestP.bor {H : Heap} {out : TV} {X : List Obs} (h : NestP H out X) (f : Nat) : Dn.snap .borrow H (f + 5) out = some ((elS true).lt true X) := by
  obtain ⟨ts, h1, h2, h3⟩ := h
  refine h1.to (m := .borrow) (by decide) (E' := elS true) rfl ?_
  have : ∀ (ts : List ({t : TV // t.one = true} × {t : TV // t.one = true})) (X : List Obs), ts.length = X.length → (∀ (i : Nat) t x, ts[i]? = some t → X[i]? = some x → elI.Own H t.1.1 x.1 ∧ elI.Own H t.2.1 x.2) → mapO (Dn.snap .borrow H (f + 4)) (ts.map elCC.val) = some (X.map (elS true).val) := by
    intro ts
    induction ts with
    | nil => intro X hl _; cases X with
      | nil => rfl
      | cons x l => simp at hl
    | cons t ts ih =>
      intro X hl hk
      cases X with
      | nil => simp at hl
      | cons x X =>
        obtain ⟨ht, ht'⟩ := hk 0 t x rfl rfl
        have hv : Dn.snap .borrow H (f + 3) t.1.1 = some (elI.lt true x.1) := ht.to (by decide) (E' := elI) rfl (elI_flat.mapO .borrow H f x.1)
        have hv' : Dn.snap .borrow H (f + 3) t.2.1 = some (elI.lt true x.2) := ht'.to (by decide) (E' := elI) rfl (elI_flat.mapO .borrow H f x.2)
        have hv2 : Dn.snap .borrow H (f + 4) (elCC.val t) = some ((elS true).val x) := by
          rw [show elCC.val t = .agg [t.1.1, t.2.1] from rfl, snS_agg]
          simp only [mapO, hv, hv', Option.bind_some, Option.map_some]
          rfl
        rw [List.map_cons, mapO, hv2, Option.bind_some, ih X (by simpa using hl) fun i t x h1 h2 => hk (i + 1) t x h1 h2]
        rfl
  exact this ts X h2 fun i t x ht hx => (h3 i t x ht hx).1

/-! all, from the last one on -/

/-! prices at most -/

/-! the goods from the last one on -/

end Go.Proofs.Tryd.Dn

