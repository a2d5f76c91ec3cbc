/-
  The machine's steps in a frame, one lemma a kind of step.
-/
import Derived.Test.YtegihfgibonhpaaDnOpsA
set_option linter.unusedVariables false
set_option linter.unusedSimpArgs false
namespace Go.Dn

variable {P : Program}

/-- a running frame: what it is (b), its slots, what is left to do, its deferred calls -/
def fr (b : Frame) (tm : Array Value) (td : List Item) (ds : List Deferred) : Frame := { fn := b.fn, tmps := tm, todo := td, defers := ds, mode := .run, kind := b.kind, roundOf := b.roundOf }

/-- an operand's value -/
def ev (tm : Array Value) : Operand → Value
  | .tmp t => tm.getD t undef
  | .const v => v
  | .global g => .pointer (some ⟨g, 0, none⟩)
  | .func f => .func (.func f) #[] #[]

variable {b : Frame} {tm : Array Value} {k : List Item} {ds : List Deferred} {cs : List Frame} {w : World}

theorem fr_eval (x : Operand) (td : List Item) : (fr b tm td ds).eval x = ev tm x := by cases x <;> rfl
theorem fr_eval' (td : List Item) : (fr b tm td ds).eval = ev tm := funext fun x => fr_eval x td

def putT (tm : Array Value) (d : Option Tmp) (v : Value) : Array Value := match d with | some d => tm.setIfInBounds d v | none => tm

theorem fr_finish (ops : Array Oper) (i : Nat) (rest : List Nat) (v : Value) : (fr b tm (.inRegion ops (i :: rest) :: k) ds).finish v = fr b (putT tm ((ops[i]?).bind (·.dst)) v) (.inRegion ops rest :: k) ds := by
  cases h : (ops[i]?).bind (·.dst) <;> simp [Frame.finish, fr, putT, h]

theorem st_skip : step P (lone (fr b tm (.code .skip :: k) ds) cs w) = .next (lone (fr b tm k ds) cs w) := step_lone_go (by simp [stepG, stepG.exec, fr])
theorem st_label {l : Nat} : step P (lone (fr b tm (.code (.label l) :: k) ds) cs w) = .next (lone (fr b tm k ds) cs w) := step_lone_go (by simp [stepG, stepG.exec, fr])
theorem st_inBlock {id : Nat} : step P (lone (fr b tm (.inBlock id :: k) ds) cs w) = .next (lone (fr b tm k ds) cs w) := step_lone_go (by simp [stepG, stepG.exec, fr])
theorem st_inScope {c : Code} : step P (lone (fr b tm (.inScope c :: k) ds) cs w) = .next (lone (fr b tm k ds) cs w) := step_lone_go (by simp [stepG, stepG.exec, fr])
theorem st_seq {x y : Code} : step P (lone (fr b tm (.code (.seq x y) :: k) ds) cs w) = .next (lone (fr b tm (.code x :: .code y :: k) ds) cs w) := step_lone_go (by simp [stepG, stepG.exec, fr])
theorem st_cond {c : Operand} {x y : Code} {t : Bool} (h : ev tm c = .bool t) : step P (lone (fr b tm (.code (.cond c x y) :: k) ds) cs w) = .next (lone (fr b tm (.code (if t then x else y) :: k) ds) cs w) :=
  step_lone_go (by
    have := fr_eval (b := b) (tm := tm) (ds := ds) c (.code (.cond c x y) :: k)
    simp only [fr] at this
    simp [stepG, stepG.exec, fr, this, h])
theorem st_block {id : Nat} {c : Code} : step P (lone (fr b tm (.code (.block id c) :: k) ds) cs w) = .next (lone (fr b tm (.code c :: .inBlock id :: k) ds) cs w) := step_lone_go (by simp [stepG, stepG.exec, fr])
theorem st_scope {c : Code} : step P (lone (fr b tm (.code (.scope c) :: k) ds) cs w) = .next (lone (fr b tm (.code c :: .inScope c :: k) ds) cs w) := step_lone_go (by simp [stepG, stepG.exec, fr])
theorem st_loop {c : Code} : step P (lone (fr b tm (.code (.loop c) :: k) ds) cs w) = .next (lone (fr b tm (.code c :: .inLoop c :: k) ds) cs w) := step_lone_go (by simp [stepG, stepG.exec, fr])
theorem st_inLoop {c : Code} : step P (lone (fr b tm (.inLoop c :: k) ds) cs w) = .next (lone (fr b tm (.code c :: .inLoop c :: k) ds) cs w) := step_lone_go (by simp [stepG, stepG.exec, fr])
theorem st_exit {id : Nat} {k' : List Item} (h : exitTo id k = some k') : step P (lone (fr b tm (.code (.exit id) :: k) ds) cs w) = .next (lone (fr b tm k' ds) cs w) := step_lone_go (by simp [stepG, stepG.exec, fr, h])
theorem st_region {id : Nat} {ops : Array Oper} : step P (lone (fr b tm (.code (.region id ops false) :: k) ds) cs w) = .next (lone (fr b tm (.inRegion ops (List.range ops.size) :: k) ds) cs w) :=
  step_lone_go (by simp [stepG, stepG.exec, fr])
theorem st_region_draw {id : Nat} {ops : Array Oper} : step P (lone (fr b tm (.code (.region id ops true) :: k) ds) cs w) =
    .next (lone (fr b tm (.inRegion ops (Region.schedule (P.follows .mixedOrders) ops (w.tape w.drawn (.order b.fn id))) :: k) ds) cs { w with drawn := w.drawn + 1 }) :=
  step_lone_go (by simp [stepG, stepG.exec, fr, choose, Sem.run, Question.forced, Question.cut])
theorem st_region_end {ops : Array Oper} : step P (lone (fr b tm (.inRegion ops [] :: k) ds) cs w) = .next (lone (fr b tm k ds) cs w) := step_lone_go (by simp [stepG, stepG.exec, fr])

theorem st_op_skip {ops : Array Oper} {i : Nat} {rest : List Nat} (h : ((ops[i]?).map (Region.wanted · (yielded ops tm))).getD false = false) :
    step P (lone (fr b tm (.inRegion ops (i :: rest) :: k) ds) cs w) = .next (lone (fr b (putT tm ((ops[i]?).bind (·.dst)) undef) (.inRegion ops rest :: k) ds) cs w) := by
  rw [← fr_finish]
  exact step_lone_go (by
    have h' := h
    simp only [fr] at *
    simp [stepG, stepG.exec, h'])

theorem stepG_op' {ops : Array Oper} {i : Nat} {rest : List Nat} {o : Oper} (ho : ops[i]? = some o) (hw : Region.wanted o (yielded ops tm) = true) (hd : ∀ c, o.op ≠ .defer c) :
    stepG P true { frame := fr b tm (.inRegion ops (i :: rest) :: k) ds, callers := cs, status := .running, dying := none } w =
      stepG.apply P true (fr b tm (.inRegion ops (i :: rest) :: k) ds) cs none (execOp (ev tm) o) w := by
  have he := fr_eval' (b := b) (tm := tm) (ds := ds) (.inRegion ops (i :: rest) :: k)
  simp only [fr] at he
  cases hr : b.roundOf with
  | none => simp [stepG, stepG.exec, stepG.oper, Frame.oper?, fr, ho, hw, hr, he]; rw [hr] at he; rw [he]
  | some l =>
    rw [hr] at he
    simp only [stepG, stepG.exec, stepG.oper, Frame.oper?, fr, ho, hw, hr, Option.map_some, Option.getD_some, if_true]
    split
    · rename_i h; exact absurd h (hd _)
    · rw [he]

theorem st_value {ops : Array Oper} {i : Nat} {rest : List Nat} {o : Oper} {v : Value} {w' : World} (ho : ops[i]? = some o) (hw : Region.wanted o (yielded ops tm) = true) (hd : ∀ c, o.op ≠ .defer c)
    (hr : (execOp (ev tm) o).run P w = .ok (.value v) w') : step P (lone (fr b tm (.inRegion ops (i :: rest) :: k) ds) cs w) = .next (lone (fr b (putT tm o.dst v) (.inRegion ops rest :: k) ds) cs w') := by
  refine step_lone_go ?_
  rw [stepG_op' ho hw hd]
  have := fr_finish (b := b) (tm := tm) (k := k) (ds := ds) ops i rest v
  rw [ho] at this
  simp [stepG.apply, hr, this]

theorem st_skipv {ops : Array Oper} {i : Nat} {rest : List Nat} {o : Oper} {w' : World} (ho : ops[i]? = some o) (hw : Region.wanted o (yielded ops tm) = true) (hd : ∀ c, o.op ≠ .defer c)
    (hr : (execOp (ev tm) o).run P w = .ok .skip w') : step P (lone (fr b tm (.inRegion ops (i :: rest) :: k) ds) cs w) = .next (lone (fr b (putT tm o.dst undef) (.inRegion ops rest :: k) ds) cs w') := by
  refine step_lone_go ?_
  rw [stepG_op' ho hw hd]
  have := fr_finish (b := b) (tm := tm) (k := k) (ds := ds) ops i rest undef
  rw [ho] at this
  simp [stepG.apply, hr, this]

/-- where a call leads to -/
def callee (P : Program) : Next → Option Frame
  | .enter f args => some (Frame.enter P f args .normal)
  | .round l f tmps assign body => some (Frame.round l f tmps assign body .normal)
  | _ => none

theorem st_call {ops : Array Oper} {i : Nat} {rest : List Nat} {o : Oper} {nx : Next} {fr' : Frame} {w' : World} (ho : ops[i]? = some o) (hw : Region.wanted o (yielded ops tm) = true) (hd : ∀ c, o.op ≠ .defer c)
    (hr : (execOp (ev tm) o).run P w = .ok nx w') (hc : callee P nx = some fr') :
    step P (lone (fr b tm (.inRegion ops (i :: rest) :: k) ds) cs w) = .next (lone fr' (fr b tm (.inRegion ops (i :: rest) :: k) ds :: cs) w') := by
  refine step_lone_go ?_
  rw [stepG_op' ho hw hd]
  cases nx <;> simp only [callee] at hc <;> (try (cases hc; done)) <;> (injection hc with hc; subst hc; simp [stepG.apply, hr, fr])

/-! ### a call's end -/
theorem st_leave {b : Frame} (h : b.roundOf = none) : step P (lone (fr b tm [] ds) cs w) = .next (lone { fr b tm [] ds with mode := .returning } cs w) := step_lone_go (by simp [stepG, stepG.exec, fr, h])
theorem st_ret {b : Frame} (h : b.roundOf = none) : step P (lone (fr b tm (.code .ret :: k) ds) cs w) = .next (lone { fr b tm (.code .ret :: k) ds with mode := .returning } cs w) := step_lone_go (by simp [stepG, stepG.exec, fr, h])

theorem st_take {f : Frame} {blk : Nat} {ds : List Deferred} (hm : f.mode = .returning) (hd : f.defers = { target := .collected blk, args := #[] } :: ds) (hb : w.heap[blk]? = some (.deferred (some []))) :
    step P (lone f cs w) = .next (lone { f with defers := ds } cs { w with heap := w.heap.setIfInBounds blk (.deferred none) }) := by
  refine step_lone_go ?_
  have h1 : (Instr.takeDeferred blk).run P w = .ok [] { w with heap := w.heap.setIfInBounds blk (.deferred none) } := by
    simp [Instr.takeDeferred, getObj, setObj, Sem.run, hb]
  simp [stepG, unwind, hm, hd, h1]

end Go.Dn
