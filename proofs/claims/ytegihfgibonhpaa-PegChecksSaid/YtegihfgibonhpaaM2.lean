/-
  The evaluator's limit: what it answers with fuel enough. Its equation.
-/
import Derived.Test.YtegihfgibonhpaaM1
set_option linter.unusedSimpArgs false
set_option linter.unusedVariables false

namespace Go.Dn

/-- 'R' answers where 'R0' does, with as much -/
def Sub (R0 R : Rec) : Prop := ∀ c e H o, R0 c e H = some o → R c e H = some o

section
variable {pg : Pg} {R0 R : Rec}

theorem bodyRun_mono (h : Sub R0 R) {f : Nat} {as : List TV} {H : Heap} {r : TV × Heap} (hr : bodyRun pg R0 f as H = some r) : bodyRun pg R f as H = some r := by
  simp only [bodyRun, Option.bind_eq_some_iff] at hr ⊢
  obtain ⟨d, hd, hr⟩ := hr
  refine ⟨d, hd, ?_⟩
  split at hr <;> try (cases hr; done)
  rename_i hl
  simp only [Option.bind_eq_some_iff] at hr
  obtain ⟨o, ho, hr⟩ := hr
  simp only [hl, if_true, Option.bind_eq_some_iff]
  exact ⟨o, h _ _ _ _ ho, hr⟩

theorem yieldRun_mono (h : Sub R0 R) {id : Nat} {as : List TV} {H : Heap} {r : TV × Heap} (hr : yieldRun R0 id as H = some r) : yieldRun R id as H = some r := by
  unfold yieldRun at hr ⊢
  split at hr <;> try (cases hr; done)
  rename_i L hL
  split at hr <;> try (cases hr; done)
  rename_i hl
  simp only [Option.bind_eq_some_iff] at hr
  obtain ⟨o1, h1, hr⟩ := hr
  simp only [hL, hl, if_true, Option.bind_eq_some_iff]
  refine ⟨o1, h _ _ _ _ h1, ?_⟩
  split at hr <;> try (cases hr; done)
  rename_i hn hL1
  split at hr <;> try (cases hr; done)
  rename_i hst
  simp only [Option.bind_eq_some_iff] at hr
  obtain ⟨o2, h2, hr⟩ := hr
  simp only [hst, if_true, Option.bind_eq_some_iff]
  exact ⟨o2, h _ _ _ _ h2, hr⟩

theorem callRun_mono (h : Sub R0 R) {m : CMode} {vs : List TV} {H : Heap} {r : TV × Heap} (hr : callRun pg R0 m vs H = some r) : callRun pg R m vs H = some r := by
  rcases vs with _ | ⟨v, vs⟩
  · exact hr
  · cases v <;> simp only [callRun] at hr ⊢ <;> try (exact hr)
    · cases m with
      | sh => exact bodyRun_mono h hr
      | pu ks =>
        simp only [Option.bind_eq_some_iff] at hr ⊢
        obtain ⟨as, ha, hr⟩ := hr
        refine ⟨as, ha, ?_⟩
        split at hr
        · exact hr
        · simp only [Option.bind_eq_some_iff] at hr ⊢
          obtain ⟨x, hx, hr⟩ := hr
          exact ⟨x, bodyRun_mono h hx, hr⟩
    · cases m with
      | sh => exact yieldRun_mono h hr
      | pu ks => exact hr

theorem operRun_mono (h : Sub R0 R) {o : DOper} {e : Env} {H : Heap} {r : Env × Heap} (hr : operRun pg R0 o e H = some r) : operRun pg R o e H = some r := by
  unfold operRun at hr ⊢
  simp only [Option.bind_eq_some_iff] at hr ⊢
  obtain ⟨go, hg, hr⟩ := hr
  refine ⟨go, hg, ?_⟩
  split at hr
  · rename_i hgo
    simp only [hgo, if_true, Option.bind_eq_some_iff, Option.map_eq_some_iff] at hr ⊢
    obtain ⟨vs, hvs, x, hx, hr⟩ := hr
    refine ⟨vs, hvs, x, ?_, hr⟩
    split at hx
    · exact callRun_mono h hx
    · exact hx
  · rename_i hgo
    rw [if_neg hgo]; exact hr

theorem opsRun_mono (h : Sub R0 R) : ∀ {ops : List DOper} {e : Env} {H : Heap} {r : Env × Heap}, opsRun pg R0 ops e H = some r → opsRun pg R ops e H = some r
  | [], _, _, _, hr => hr
  | o :: os, e, H, r, hr => by
    simp only [opsRun, Option.bind_eq_some_iff] at hr ⊢
    obtain ⟨x, hx, hr⟩ := hr
    exact ⟨x, operRun_mono h hx, opsRun_mono h hr⟩

theorem runC_mono (h : Sub R0 R) : Sub (runC pg R0) (runC pg R) := by
  intro c
  induction c with
  | skip => intro e H o hr; exact hr
  | reg ops ks =>
    intro e H o hr
    simp only [runC, Option.map_eq_some_iff] at hr ⊢
    obtain ⟨x, hx, hr⟩ := hr
    exact ⟨x, opsRun_mono h hx, hr⟩
  | seq x y ihx ihy =>
    intro e H o hr
    simp only [runC, Option.bind_eq_some_iff] at hr ⊢
    obtain ⟨o1, h1, hr⟩ := hr
    refine ⟨o1, ihx _ _ _ h1, ?_⟩
    split at hr
    · rename_i hn; rw [if_pos hn]; exact ihy _ _ _ hr
    · rename_i hn; rw [if_neg hn]; exact hr
  | cond c x y ihx ihy =>
    intro e H o hr
    simp only [runC] at hr ⊢
    split at hr <;> try (cases hr; done)
    split at hr
    · rename_i ht; simp only [ht, if_true]; exact ihx _ _ _ hr
    · rename_i ht; rw [if_neg ht]; exact ihy _ _ _ hr
  | block id x ih =>
    intro e H o hr
    simp only [runC, Option.map_eq_some_iff] at hr ⊢
    obtain ⟨o1, h1, hr⟩ := hr
    exact ⟨o1, ih _ _ _ h1, hr⟩
  | scope x ih => intro e H o hr; exact ih _ _ _ hr
  | loop ks x ih =>
    intro e H o hr
    simp only [runC, Option.bind_eq_some_iff] at hr ⊢
    obtain ⟨o1, h1, hr⟩ := hr
    refine ⟨o1, ih _ _ _ h1, ?_⟩
    split at hr
    · rename_i hn; rw [if_pos hn]; exact h _ _ _ _ hr
    · rename_i hn; rw [if_neg hn]; exact hr
  | exit id => intro e H o hr; exact hr
  | ret => intro e H o hr; exact hr
  | rfunc f ps a b ks _ _ =>
    intro e H o hr
    simp only [runC, Option.bind_eq_some_iff] at hr ⊢
    obtain ⟨fv, hf, x, hx, hr⟩ := hr
    exact ⟨fv, hf, x, callRun_mono h hx, hr⟩
  | bad => intro e H o hr; exact hr
end

variable {pg : Pg}

theorem denN_step : ∀ n, Sub (denN pg n) (denN pg (n + 1))
  | 0 => fun _ _ _ _ h => by simp [denN] at h
  | n + 1 => runC_mono (denN_step n)

theorem denN_le {n m : Nat} (h : n ≤ m) : Sub (denN pg n) (denN pg m) := by
  induction h with
  | refl => exact fun _ _ _ _ h => h
  | step _ ih => exact fun c e H o h => denN_step _ c e H o (ih c e H o h)

open Classical in
/-- what the evaluator answers with fuel enough -/
noncomputable def den (pg : Pg) : Rec := fun c e H => if h : ∃ o n, denN pg n c e H = some o then some h.choose else none

theorem den_iff {c : DC} {e : Env} {H : Heap} {o : Out} : den pg c e H = some o ↔ ∃ n, denN pg n c e H = some o := by
  unfold den
  constructor
  · intro h
    split at h
    · rename_i hx
      injection h with h
      obtain ⟨n, hn⟩ := hx.choose_spec
      exact ⟨n, h ▸ hn⟩
    · cases h
  · rintro ⟨n, hn⟩
    have hx : ∃ o n, denN pg n c e H = some o := ⟨o, n, hn⟩
    rw [dif_pos hx]
    obtain ⟨m, hm⟩ := hx.choose_spec
    have h1 := denN_le (Nat.le_max_left n m) _ _ _ _ hn
    have h2 := denN_le (Nat.le_max_right n m) _ _ _ _ hm
    rw [h1] at h2
    exact congrArg some (Option.some.inj h2).symm

theorem denN_den (n : Nat) : Sub (denN pg n) (den pg) := fun _ _ _ _ h => den_iff.2 ⟨n, h⟩

/-! continuity: what the limit answers, some fuel answers -/
section
theorem bodyRun_cont {f : Nat} {as : List TV} {H : Heap} {r : TV × Heap} (hr : bodyRun pg (den pg) f as H = some r) : ∃ n, bodyRun pg (denN pg n) f as H = some r := by
  simp only [bodyRun, Option.bind_eq_some_iff] at hr
  obtain ⟨d, hd, hr⟩ := hr
  split at hr <;> try (cases hr; done)
  rename_i hl
  simp only [Option.bind_eq_some_iff] at hr
  obtain ⟨o, ho, hr⟩ := hr
  obtain ⟨n, hn⟩ := den_iff.1 ho
  refine ⟨n, ?_⟩
  simp only [bodyRun, Option.bind_eq_some_iff]
  refine ⟨d, hd, ?_⟩
  simp only [hl, if_true, Option.bind_eq_some_iff]
  exact ⟨o, hn, hr⟩

theorem yieldRun_cont {id : Nat} {as : List TV} {H : Heap} {r : TV × Heap} (hr : yieldRun (den pg) id as H = some r) : ∃ n, yieldRun (denN pg n) id as H = some r := by
  unfold yieldRun at hr
  split at hr <;> try (cases hr; done)
  rename_i L hL
  split at hr <;> try (cases hr; done)
  rename_i hl
  simp only [Option.bind_eq_some_iff] at hr
  obtain ⟨o1, h1, hr⟩ := hr
  split at hr <;> try (cases hr; done)
  rename_i hn hL1
  split at hr <;> try (cases hr; done)
  rename_i hst
  simp only [Option.bind_eq_some_iff] at hr
  obtain ⟨o2, h2, hr⟩ := hr
  obtain ⟨n1, k1⟩ := den_iff.1 h1
  obtain ⟨n2, k2⟩ := den_iff.1 h2
  refine ⟨max n1 n2, ?_⟩
  unfold yieldRun
  simp only [hL, hl, if_true, Option.bind_eq_some_iff]
  refine ⟨o1, denN_le (Nat.le_max_left _ _) _ _ _ _ k1, ?_⟩
  rw [hn, hL1]
  simp only [hst, if_true, Option.bind_eq_some_iff]
  exact ⟨o2, denN_le (Nat.le_max_right _ _) _ _ _ _ k2, hr⟩

theorem callRun_cont {m : CMode} {vs : List TV} {H : Heap} {r : TV × Heap} (hr : callRun pg (den pg) m vs H = some r) : ∃ n, callRun pg (denN pg n) m vs H = some r := by
  rcases vs with _ | ⟨v, vs⟩
  · exact ⟨0, hr⟩
  · cases v <;> simp only [callRun] at hr ⊢ <;> try (exact ⟨0, hr⟩)
    · cases m with
      | sh => exact bodyRun_cont hr
      | pu ks =>
        simp only [Option.bind_eq_some_iff] at hr ⊢
        obtain ⟨as, ha, hr⟩ := hr
        split at hr
        · rename_i hsm
          exact ⟨0, as, ha, by rw [hsm]; exact hr⟩
        · rename_i hsm
          simp only [Option.bind_eq_some_iff] at hr
          obtain ⟨x, hx, hr⟩ := hr
          obtain ⟨n, hn⟩ := bodyRun_cont hx
          refine ⟨n, as, ha, ?_⟩
          rw [hsm]
          exact Option.bind_eq_some_iff.2 ⟨x, hn, hr⟩
    · cases m with
      | sh => exact yieldRun_cont hr
      | pu ks => exact ⟨0, hr⟩

theorem operRun_cont {o : DOper} {e : Env} {H : Heap} {r : Env × Heap} (hr : operRun pg (den pg) o e H = some r) : ∃ n, operRun pg (denN pg n) o e H = some r := by
  unfold operRun at hr ⊢
  simp only [Option.bind_eq_some_iff] at hr ⊢
  obtain ⟨go, hg, hr⟩ := hr
  split at hr
  · rename_i hgo
    simp only [Option.bind_eq_some_iff, Option.map_eq_some_iff] at hr
    obtain ⟨vs, hvs, x, hx, hr⟩ := hr
    split at hx
    · obtain ⟨n, hn⟩ := callRun_cont hx
      exact ⟨n, go, hg, by simp only [hgo, if_true, Option.bind_eq_some_iff, Option.map_eq_some_iff]; exact ⟨vs, hvs, x, hn, hr⟩⟩
    · rename_i hne
      refine ⟨0, go, hg, ?_⟩
      simp only [hgo, if_true, Option.bind_eq_some_iff, Option.map_eq_some_iff]
      exact ⟨vs, hvs, x, hx, hr⟩
  · rename_i hgo
    exact ⟨0, go, hg, by rw [if_neg hgo]; exact hr⟩

theorem opsRun_cont : ∀ {ops : List DOper} {e : Env} {H : Heap} {r : Env × Heap}, opsRun pg (den pg) ops e H = some r → ∃ n, opsRun pg (denN pg n) ops e H = some r
  | [], _, _, _, hr => ⟨0, hr⟩
  | o :: os, e, H, r, hr => by
    simp only [opsRun, Option.bind_eq_some_iff] at hr ⊢
    obtain ⟨x, hx, hr⟩ := hr
    obtain ⟨n1, h1⟩ := operRun_cont hx
    obtain ⟨n2, h2⟩ := opsRun_cont hr
    exact ⟨max n1 n2, x, operRun_mono (denN_le (Nat.le_max_left _ _)) h1, opsRun_mono (denN_le (Nat.le_max_right _ _)) h2⟩

theorem runC_cont : ∀ {c : DC} {e : Env} {H : Heap} {o : Out}, runC pg (den pg) c e H = some o → ∃ n, runC pg (denN pg n) c e H = some o := by
  intro c
  induction c with
  | skip => intro e H o hr; exact ⟨0, hr⟩
  | reg ops ks =>
    intro e H o hr
    simp only [runC, Option.map_eq_some_iff] at hr ⊢
    obtain ⟨x, hx, hr⟩ := hr
    obtain ⟨n, hn⟩ := opsRun_cont hx
    exact ⟨n, x, hn, hr⟩
  | seq x y ihx ihy =>
    intro e H o hr
    simp only [runC, Option.bind_eq_some_iff] at hr ⊢
    obtain ⟨o1, h1, hr⟩ := hr
    obtain ⟨n1, k1⟩ := ihx h1
    split at hr
    · rename_i hn
      obtain ⟨n2, k2⟩ := ihy hr
      exact ⟨max n1 n2, o1, runC_mono (denN_le (Nat.le_max_left _ _)) _ _ _ _ k1, by rw [if_pos hn]; exact runC_mono (denN_le (Nat.le_max_right _ _)) _ _ _ _ k2⟩
    · rename_i hn
      exact ⟨n1, o1, k1, by rw [if_neg hn]; exact hr⟩
  | cond c x y ihx ihy =>
    intro e H o hr
    simp only [runC] at hr ⊢
    split at hr <;> try (cases hr; done)
    split at hr
    · rename_i ht; simp only [ht, if_true]; exact ihx hr
    · rename_i ht; simp only [if_neg ht]; exact ihy hr
  | block id x ih =>
    intro e H o hr
    simp only [runC, Option.map_eq_some_iff] at hr ⊢
    obtain ⟨o1, h1, hr⟩ := hr
    obtain ⟨n, hn⟩ := ih h1
    exact ⟨n, o1, hn, hr⟩
  | scope x ih => intro e H o hr; exact ih hr
  | loop ks x ih =>
    intro e H o hr
    simp only [runC, Option.bind_eq_some_iff] at hr ⊢
    obtain ⟨o1, h1, hr⟩ := hr
    obtain ⟨n1, k1⟩ := ih h1
    split at hr
    · rename_i hn
      obtain ⟨n2, k2⟩ := den_iff.1 hr
      exact ⟨max n1 n2, o1, runC_mono (denN_le (Nat.le_max_left _ _)) _ _ _ _ k1, by rw [if_pos hn]; exact denN_le (Nat.le_max_right _ _) _ _ _ _ k2⟩
    · rename_i hn
      exact ⟨n1, o1, k1, by rw [if_neg hn]; exact hr⟩
  | exit id => intro e H o hr; exact ⟨0, hr⟩
  | ret => intro e H o hr; exact ⟨0, hr⟩
  | rfunc f ps a b ks _ _ =>
    intro e H o hr
    simp only [runC, Option.bind_eq_some_iff] at hr ⊢
    obtain ⟨fv, hf, x, hx, hr⟩ := hr
    obtain ⟨n, hn⟩ := callRun_cont hx
    exact ⟨n, fv, hf, x, hn, hr⟩
  | bad => intro e H o hr; exact ⟨0, hr⟩
end

/-- the limit's equation -/
theorem den_eq (c : DC) (e : Env) (H : Heap) : den pg c e H = runC pg (den pg) c e H := by
  cases h : runC pg (den pg) c e H with
  | some o =>
    obtain ⟨n, hn⟩ := runC_cont h
    exact den_iff.2 ⟨n + 1, hn⟩
  | none =>
    cases h' : den pg c e H with
    | none => rfl
    | some o =>
      obtain ⟨n, hn⟩ := den_iff.1 h'
      cases n with
      | zero => simp [denN] at hn
      | succ n =>
        have := runC_mono (denN_den n) _ _ _ _ hn
        rw [h] at this; cases this

theorem den_sound {P : Program} {Gz : Nat} (hm : P.follows .mixedOrders = true) (hF : FnsOk P pg) (hS : SumOk P pg Gz) : CodeOk P pg Gz (den pg) := by
  intro dc e H out h
  obtain ⟨n, hn⟩ := den_iff.1 h
  exact denN_sound hm hF hS n dc e H out hn

/-- a call of a function of values: what it answers -/
def Ans (pg : Pg) (f : Nat) (as : List TV) (r : TV) (H' : Heap) : Prop := bodyRun pg (den pg) f as [] = some (r, H')

theorem Ans.of {n f : Nat} {as : List TV} {r : TV} {H' : Heap} (h : bodyRun pg (denN pg n) f as [] = some (r, H')) : Ans pg f as r H' := bodyRun_mono (denN_den n) h

end Go.Dn

/-
  A table of functions, checked function by function.
-/

namespace Go.Dn

/-- functions by number, in a tree -/
inductive Tab where
  | nil
  | one (k : Nat) (d : DFun)
  | two (m : Nat) (l r : Tab)

def Tab.look : Tab → Nat → Option DFun
  | .nil, _ => none
  | .one k d, f => if f = k then some d else none
  | .two m l r, f => if f < m then l.look f else r.look f

/-- what is asked of a function -/
def Fok (P : Program) (k : Nat) (d : DFun) : Prop := ∃ fn, P.funcs[k]? = some fn ∧ (fn.name == "runtime.NumGoroutine") = false ∧ chkF P d fn = true

def Tab.Ok (P : Program) : Tab → Prop
  | .nil => True
  | .one k d => Fok P k d
  | .two _ l r => l.Ok P ∧ r.Ok P

theorem Tab.ok_look {P : Program} : ∀ {t : Tab} {f : Nat} {d : DFun}, t.Ok P → t.look f = some d → Fok P f d
  | .nil, _, _, _, h => by simp [Tab.look] at h
  | .one k d, f, d', ho, h => by
    simp only [Tab.look] at h
    split at h
    · rename_i e; subst e; injection h with h; subst h; exact ho
    · cases h
  | .two m l r, f, d, ho, h => by
    simp only [Tab.look] at h
    split at h
    · exact Tab.ok_look ho.1 h
    · exact Tab.ok_look ho.2 h

theorem Tab.fns {P : Program} {t : Tab} {G : Nat → Option TV} {S : Nat → List TV → Option TV} (h : t.Ok P) : FnsOk P ⟨t.look, G, S⟩ := fun f d hd => Tab.ok_look h hd

end Go.Dn

