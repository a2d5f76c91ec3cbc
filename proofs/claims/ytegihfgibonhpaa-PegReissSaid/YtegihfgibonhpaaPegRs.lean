import Derived.Test.YtegihfgibonhpaaPegC
set_option linter.unusedVariables false
namespace Go.Proofs.Try.Dn
open Go.Dn

def rest7 : DC := match c7 with | .seq _ (.seq _ r) => r | _ => .bad
def head7 : DC := match c7 with | .seq a (.seq b _) => .seq a b | _ => .bad
theorem c7_eq (pg : Pg) (R : Rec) : runC pg R c7 = thn (runC pg R head7) (runC pg R rest7) := by
  simp only [c7, head7, rest7, runC_seq, thn_assoc]

def okO : Option Out → Bool
  | some ⟨.ret, [(2, .b true)], _⟩ => true
  | _ => false

theorem okO_iff {o : Option Out} (h : okO o = true) : ∃ H, o = some ⟨.ret, [(2, .b true)], H⟩ := by
  unfold okO at h
  split at h
  · exact ⟨_, rfl⟩
  · cases h

end Go.Proofs.Try.Dn
