/-
  The evaluator's code: sound. Then its limit.
-/
import Derived.Test.YtegihfgibonhpaaDnReg4
set_option linter.unusedVariables false
set_option linter.unusedSimpArgs false
namespace Go.Dn

variable {P : Program} {pg : Pg} {Gz : Nat}

/-- what a run of code comes to -/
def Done (P : Program) (pg : Pg) (B W0 : Nat) (N : Nat) (b : Frame) (tm : Array Value) (c : List Item) (k : List Item) (ds : List Deferred) (cs : List Frame) (π : PMap) (H : Heap) (w : World) (av ex : Nat → Prop) (out : Out) : Prop :=
  ∃ tm' td ds' w' π' av', Steps P (lone (fr b tm c ds) cs w) (lone (fr b tm' td ds') cs w') ∧ tm'.size = N ∧ ExTo out.ex k td ∧ ERel π' w' av' ex out.env tm' ∧ DefOk W0 w' av' ds' ∧
      Res P B (wrK B av true) π H w av ex out.H w' π' av'

theorem exitTo_skip {id : Nat} {i : Item} {k : List Item} (h : ∀ id', i ≠ .inBlock id') : exitTo id (i :: k) = exitTo id k := by
  cases i <;> first | rfl | exact absurd rfl (h _)

theorem exitTo_block {id id' : Nat} {k : List Item} : exitTo id (.inBlock id' :: k) = if id' = id then some k else exitTo id k := by
  simp only [exitTo]
  by_cases h : id' = id <;> simp [h]

section
variable {B W0 N : Nat} {b : Frame} {ds : List Deferred} {cs : List Frame} {ex : Nat → Prop}

theorem ExTo.under {x : Ex} {i : Item} {k td : List Item} (hx : x ≠ .normal) (hi : ∀ id', i ≠ .inBlock id') (h : ExTo x (i :: k) td) : ExTo x k td := by
  cases x with
  | normal => exact absurd rfl hx
  | exit id => obtain ⟨K, rfl, h⟩ := h; exact ⟨K, rfl, by rw [h, exitTo_skip hi]⟩
  | ret => exact h

theorem rfunc_enter {tm : Array Value} {k : List Item} {w : World} {f : Operand} {params : Array Tmp} {as bd : Code} {l : Nat} {mark : List Deferred} {w1 : World} {nx : Next} {frm : Frame}
    (h1 : (Instr.enterLoop b.fn tm params as bd b.roundOf).run P w = .ok (l, mark) w1) (h2 : (invokeS (ev tm f) #[.func (.yield l) #[] #[]]).run P w1 = .ok nx w1) (h3 : callee P nx = some frm) :
    step P (lone (fr b tm (.code (.rangeFunc f params as bd) :: k) ds) cs w) = .next (lone frm (fr b tm (.inRangeFunc l :: k) (mark ++ ds) :: cs) w1) := by
  refine step_lone_go ?_
  have he : ∀ td dd, (fr b tm td dd).eval f = ev tm f := fun td dd => fr_eval (b := b) (tm := tm) (ds := dd) f td
  have hres : (do let d ← resolve (fr b tm (.inRangeFunc l :: k) (mark ++ ds)).eval { callee := .value f, args := #[.const (.func (.yield l) #[] #[])], argTypes := #[] } 0; invoke d.target d.args : Sem Next) = invokeS (ev tm f) #[.func (.yield l) #[] #[]] := by
    simp only [resolve, he, invokeS]
    simp [Frame.eval]
  simp only [fr] at hres
  simp only [stepG, stepG.exec, fr]
  simp [h1, hres, stepG.apply]
  rw [h2]
  cases nx <;> simp only [callee] at h3 <;> (try (cases h3; done)) <;> (injection h3 with h3; subst h3; rfl)

theorem st_endRange {tm : Array Value} {k : List Item} {w : World} {l : Nat} {r : Loop} (h : w.heap[l]? = some (.loop r)) (hst : r.state ≠ .busy) :
    step P (lone (fr b tm (.endRangeFunc l :: k) ds) cs w) = .next (lone (fr b tm ((r.pending.map Item.code).toList ++ k) ds) cs (setL w l { r with state := .exhausted })) := by
  refine step_lone_go ?_
  have h1 : (Instr.endLoop l).run P w = .ok r.pending (setL w l { r with state := .exhausted }) := by
    cases hs : r.state <;> simp [hs] at hst <;> simp [Instr.endLoop, Instr.getLoop, getObj, setObj, Sem.run, h, hs, setL]
  simp [stepG, stepG.exec, fr, h1]

theorem Steps.tail {m m1 m' : Machine} (h : Steps P m m') (hs : step P m = .next m1) (hne : m ≠ m') : Steps P m1 m' := by
  obtain ⟨n, hn⟩ := h
  cases n with
  | zero => simp [runN] at hn; exact absurd hn hne
  | succ n => exact ⟨n, by simpa [runN, hs] using hn⟩

end
end Go.Dn
