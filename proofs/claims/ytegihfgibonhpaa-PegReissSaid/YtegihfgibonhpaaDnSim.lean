/-
  Running code by equations.
-/
import Derived.Test.YtegihfgibonhpaaDnTab
set_option linter.unusedVariables false
namespace Go.Dn

theorem wrapR_i64 {n : Int} (h : -9223372036854775808 ≤ n ∧ n ≤ 9223372036854775807) : wrapR .i64 n = .i .i64 n := by
  unfold wrapR
  rw [show IntKind.wrap .i64 n = n by simp [IntKind.wrap, IntKind.signed, IntKind.bits]; omega]

theorem part_one {c : List TV} {i : Nat} {v : TV} (h : c[i]? = some v) (hv : v.isAgg = false) : Dn.part 1 false i c = some v := by simp [Dn.part, h, hv]

/-- one after the other -/
def thn (p q : Env → Heap → Option Out) : Env → Heap → Option Out := fun e H => (p e H).bind fun o => if o.ex = .normal then q o.env o.H else some o

theorem runC_seq (pg : Pg) (R : Rec) (x y : DC) : runC pg R (.seq x y) = thn (runC pg R x) (runC pg R y) := rfl

theorem thn_assoc (p q r : Env → Heap → Option Out) : thn (thn p q) r = thn p (thn q r) := by
  funext e H
  simp only [thn]
  cases p e H with
  | none => rfl
  | some o =>
    simp only [Option.bind_some]
    by_cases h : o.ex = .normal
    · simp only [h, if_true]
    · simp only [h, if_false, Option.bind_some]

theorem thn_some {p q : Env → Heap → Option Out} {e : Env} {H : Heap} {o : Out} (h : p e H = some o) (hn : o.ex = .normal) : thn p q e H = q o.env o.H := by
  simp only [thn, h, Option.bind_some, hn, if_true]

theorem bodyRun_of {pg : Pg} {f : Nat} {xs : List TV} {H : Heap} {d : DFun} {o : Out} {vs : List TV} (hd : pg.F f = some d) (hl : xs.length = d.np) (ho : runC pg (den pg) d.body (zipE xs 0) H = some o) (hx : ∀ id, o.ex ≠ .exit id) (hv : mapO (resRun o.env o.H) d.res = some vs) :
    bodyRun pg (den pg) f xs H = some (tupR vs, o.H) := by
  rw [← den_eq] at ho
  simp only [bodyRun, hd, Option.bind_some, hl, if_true, ho]
  cases hox : o.ex with
  | exit id => exact absurd hox (hx id)
  | normal =>
    show Option.map _ (mapO (resRun o.env o.H) d.res) = _
    rw [hv]
    rcases vs with _ | ⟨v, _ | ⟨v', vs⟩⟩ <;> rfl
  | ret =>
    show Option.map _ (mapO (resRun o.env o.H) d.res) = _
    rw [hv]
    rcases vs with _ | ⟨v, _ | ⟨v', vs⟩⟩ <;> rfl

theorem bindS {α β : Type} (x : α) (f : α → Option β) : (some x).bind f = f x := rfl
theorem mapS {α β : Type} (x : α) (f : α → β) : (some x).map f = some (f x) := rfl

end Go.Dn
