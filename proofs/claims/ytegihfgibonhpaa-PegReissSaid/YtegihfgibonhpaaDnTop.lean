/-
  What a result of the evaluator says of a call.
-/
import Derived.Test.YtegihfgibonhpaaDnSound2
set_option linter.unusedVariables false
set_option linter.unusedSimpArgs false
namespace Go.Dn
open Go.RowKit

variable {P : Program} {pg : Pg} {Gz : Nat}

/-- a value by value: it names nothing of a call's own heap -/
abbrev Sees (w : World) (t : TV) (v : Value) : Prop := VRel (fun _ => none) w none' none' t v
abbrev SeesAll (w : World) (ts : List TV) (vs : List Value) : Prop := VsRel (fun _ => none) w none' none' ts vs

theorem body_calls {R : Rec} (hR : CodeOk P pg Gz R) (hF : FnsOk P pg) {f : Nat} {args : List TV} {t : TV} {H' : Heap} (h : bodyRun pg R f args [] = some (t, H')) {w : World} {us : Array Value} (hu : SeesAll w args us.toList) (hG : GRel pg Gz w) (hGz : Gz ≤ w.heap.size) :
    Calls P f us w fun e w' => ∃ v, e = .returned v ∧ Below w.heap.size w w' ∧ ∃ π' av', VRel π' w' av' none' t v ∧ HRel P w.heap.size π' H' w' av' none' := by
  have hs : St P pg Gz w.heap.size (fun _ => none) [] w none' none' :=
    ⟨⟨⟨(fun _ _ _ _ h => by cases h), (fun _ _ _ _ _ _ _ h => by cases h), (fun g h => False.elim h), (fun g h => False.elim h), Nat.le_refl _⟩, hG, (fun g h => False.elim h), (fun g h => False.elim h), hGz⟩, fun _ _ => rfl⟩
  obtain ⟨h1, h2⟩ := body_sound hR hF h hs hu
  intro cs
  obtain ⟨frm, v, w', π', av', hst, hfn, hlv, hvr, hres⟩ := h2 cs
  refine ⟨.returned v, w', frm, ⟨v, rfl, ⟨hres.ev.os, hres.ev.tape, hres.ev.out, hres.ev.len, fun k hk => hres.ev.blk k hk fun x => x.2.1⟩, π', av', hvr, hres.hr⟩, hst, hfn, hlv⟩

/-- a call that answers yes -/
theorem yes_calls {n : Nat} (hm : P.follows .mixedOrders = true) (hF : FnsOk P pg) (hS : SumOk P pg Gz) {f : Nat} {args : List TV} {H' : Heap} (h : bodyRun pg (denN pg n) f args [] = some (.b true, H')) {w : World} {us : Array Value} (hu : SeesAll w args us.toList) (hG : GRel pg Gz w) (hGz : Gz ≤ w.heap.size) :
    Calls P f us w fun e w' => e = .returned (.bool true) ∧ Below w.heap.size w w' := by
  refine (body_calls (denN_sound hm hF hS n) hF h hu hG hGz).mono fun e w' he => ?_
  obtain ⟨v, rfl, hb, π', av', hv, _⟩ := he
  exact ⟨by rw [hv.b_inv], hb⟩

theorem SumOk.none (F : Nat → Option DFun) (G : Nat → Option TV) : SumOk P ⟨F, G, fun _ _ => Option.none⟩ Gz := fun _ _ _ h => by cases h

theorem GRel.none (w : World) (F : Nat → Option DFun) (S : Nat → List TV → Option TV) : GRel ⟨F, fun _ => Option.none, S⟩ 0 w := fun n tv h => by cases h

end Go.Dn
