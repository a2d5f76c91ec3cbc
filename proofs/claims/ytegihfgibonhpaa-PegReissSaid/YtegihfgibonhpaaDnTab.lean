/-
  A table of functions, checked function by function.
-/
import Derived.Test.YtegihfgibonhpaaDnLim
set_option linter.unusedVariables false
namespace Go.Dn

/-- functions by number, in a tree -/
inductive Tab where
  | nil
  | one (k : Nat) (d : DFun)
  | two (m : Nat) (l r : Tab)

def Tab.look : Tab → Nat → Option DFun
  | .nil, _ => none
  | .one k d, f => if f = k then some d else none
  | .two m l r, f => if f < m then l.look f else r.look f

/-- what is asked of a function -/
def Fok (P : Program) (k : Nat) (d : DFun) : Prop := ∃ fn, P.funcs[k]? = some fn ∧ (fn.name == "runtime.NumGoroutine") = false ∧ chkF P d fn = true

def Tab.Ok (P : Program) : Tab → Prop
  | .nil => True
  | .one k d => Fok P k d
  | .two _ l r => l.Ok P ∧ r.Ok P

theorem Tab.ok_look {P : Program} : ∀ {t : Tab} {f : Nat} {d : DFun}, t.Ok P → t.look f = some d → Fok P f d
  | .nil, _, _, _, h => by simp [Tab.look] at h
  | .one k d, f, d', ho, h => by
    simp only [Tab.look] at h
    split at h
    · rename_i e; subst e; injection h with h; subst h; exact ho
    · cases h
  | .two m l r, f, d, ho, h => by
    simp only [Tab.look] at h
    split at h
    · exact Tab.ok_look ho.1 h
    · exact Tab.ok_look ho.2 h

theorem Tab.fns {P : Program} {t : Tab} {G : Nat → Option TV} {S : Nat → List TV → Option TV} (h : t.Ok P) : FnsOk P ⟨t.look, G, S⟩ := fun f d hd => Tab.ok_look h hd

end Go.Dn
