import Derived.Test.YtegihfgibonhpaaPegB
set_option linter.unusedVariables false
namespace Go.Proofs.Try.Dn
open Go.Dn

theorem mixed : Try.prog.follows .mixedOrders = true := by kernel_rfl

theorem good0 : CodeOk Try.prog pg0 0 (den pg0) := den_sound mixed (Tab.fns tab_ok) (SumOk.none _ _)

def S24 : Nat → List TV → Option TV
  | 24, [.i .i64 3, .bs true 3 [.agg [.i .i64 0, .i .i64 1, .i .i64 2]], .i .i64 3] => some (.tup [.bs false 1 [.i .i64 3, .i .i64 4], .i .i64 0])
  | _, _ => none

def pg1 : Pg := ⟨tab.look, fun _ => none, S24⟩

theorem sum1 : SumOk Try.prog pg1 0 := by
  intro f xs r h
  have h' : S24 f xs = some r := h
  unfold S24 at h'
  split at h'
  · injection h' with h'
    subst h'
    obtain ⟨H1, h1, h2⟩ := run24
    refine ⟨pg0, den pg0, rfl, good0, Tab.fns tab_ok, _, H1, h1, ?_⟩
    simp [snap, mapO, h2, elems]
  · cases h'

theorem good1 : CodeOk Try.prog pg1 0 (den pg1) := den_sound mixed (Tab.fns tab_ok) sum1

def yes : Option (TV × Heap) → Bool
  | some (.b true, _) => true
  | _ => false

theorem yes_iff {o : Option (TV × Heap)} (h : yes o = true) : ∃ H, o = some (.b true, H) := by
  unfold yes at h
  split at h
  · exact ⟨_, rfl⟩
  · cases h

theorem awake1 : yes (bodyRun pg1 (denN pg1 300) 22 [] []) = true := by kernel_rfl

/-- awake's answer, known -/
def S22 : Nat → List TV → Option TV
  | 22, [] => some (.b true)
  | _, _ => none

def pg2 : Pg := ⟨tab.look, fun _ => none, S22⟩

theorem sum2 : SumOk Try.prog pg2 0 := by
  intro f xs r h
  have h' : S22 f xs = some r := h
  unfold S22 at h'
  split at h'
  · injection h' with h'
    subst h'
    obtain ⟨H, hH⟩ := yes_iff awake1
    exact ⟨pg1, den pg1, rfl, good1, Tab.fns tab_ok, _, H, Ans.of hH, by simp [snap]⟩
  · cases h'

theorem good2 : CodeOk Try.prog pg2 0 (den pg2) := den_sound mixed (Tab.fns tab_ok) sum2

end Go.Proofs.Try.Dn
