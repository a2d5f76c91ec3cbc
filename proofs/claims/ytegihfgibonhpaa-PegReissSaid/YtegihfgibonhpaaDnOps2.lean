/-
  Operations, part 2: numbers, truth values, comparisons.
-/
import Derived.Test.YtegihfgibonhpaaDnOps
set_option linter.unusedVariables false
set_option linter.unusedSimpArgs false
namespace Go.Dn

variable {P : Program} {B : Nat} {π : PMap} {H : Heap} {w : World} {av ex : Nat → Prop}

theorem eqGuard_int (P : Program) (w : World) (bop : BinOp) (ty : TypeId) (ox oy : Operand) (k k' : IntKind) (a b : Int) : (eqGuard bop ty ox oy (.int k a) (.int k' b)).run P w = .ok () w := by
  unfold eqGuard
  cases bop <;> simp

theorem binI_sound {bop : BinOp} {x y t : TV} {u v : Value} {ty : TypeId} {ox oy : Operand} (hb : binI bop x y = some t) (hx : VRel π w av ex x u) (hy : VRel π w av ex y v) :
    ∃ z, (do eqGuard bop ty ox oy u v; binOp bop ty u v : Sem Value).run P w = .ok z w ∧ VRel π w av ex t z := by
  cases hx <;> try (simp only [binI] at hb; cases hb; done)
  rename_i k a
  cases hy <;> try (simp only [binI] at hb; cases hb; done)
  rename_i k' b
  simp only [Sem.run_bind, eqGuard_int, Result.andThen_ok]
  by_cases hk : k = k'
  · subst hk
    cases bop <;> simp only [binI, if_true] at hb <;> (try (cases hb; done)) <;> (try (split at hb; · cases hb)) <;> (injection hb with hb; subst hb) <;>
      simp_all [binOp, Op.intArith, Op.intDiv, Op.intBits, Op.intCmp, Op.shift, wrapR, VRel.i, VRel.b] <;> exact ⟨_, if_neg (by omega), .i _ _⟩
  · cases bop <;> simp only [binI, if_neg hk] at hb <;> (try (cases hb; done)) <;> (try (split at hb; · cases hb)) <;> (injection hb with hb; subst hb) <;>
      simp_all [binOp, Op.shift, wrapR, VRel.i] <;> exact ⟨_, if_neg (by omega), .i _ _⟩

theorem eqOp_run (neg : Bool) : (eqOp neg = .eql ∧ neg = false) ∨ (eqOp neg = .neq ∧ neg = true) := by cases neg <;> simp [eqOp]

theorem equal_eq (t : TypeId) (x y : Value) : Op.equal t x y = Op.equalIn (9999 + 1) t x y := rfl

theorem eqB_sound {neg : Bool} {x y : Bool} {ty : TypeId} {ox oy : Operand} (ht : P.underlying ty = some .bool) :
    (do eqGuard (eqOp neg) ty ox oy (.bool x) (.bool y); binOp (eqOp neg) ty (.bool x) (.bool y) : Sem Value).run P w = .ok (.bool (negb neg (x == y))) w := by
  have hg : (eqGuard (eqOp neg) ty ox oy (.bool x) (.bool y)).run P w = .ok () w := by unfold eqGuard; cases neg <;> simp [eqOp]
  have he : ∀ d, (Op.equalIn (d + 1) ty (.bool x) (.bool y)).run P w = .ok (x == y) w := fun d => by
    simp [Op.equalIn, run_underlying ht]
  simp only [Sem.run_bind, hg, Result.andThen_ok]
  cases neg <;> simp [eqOp, binOp, equal_eq, he, negb, -Nat.reduceAdd]

theorem eqS_sound {neg : Bool} {x y : ByteArray} {ty : TypeId} {ox oy : Operand} :
    (do eqGuard (eqOp neg) ty ox oy (.string x) (.string y); binOp (eqOp neg) ty (.string x) (.string y) : Sem Value).run P w = .ok (.bool (negb neg (x.toList == y.toList))) w := by
  have hg : (eqGuard (eqOp neg) ty ox oy (.string x) (.string y)).run P w = .ok () w := by unfold eqGuard; cases neg <;> simp [eqOp]
  simp only [Sem.run_bind, hg, Result.andThen_ok]
  cases neg <;> simp [eqOp, binOp, Op.stringOp, negb, bne]

theorem eqN_run {ty : TypeId} {u v : Value} {ox oy : Operand} {neg e : Bool} (hg : (eqGuard (eqOp neg) ty ox oy u v).run P w = .ok () w)
    (h1 : binOp .eql ty u v = (do pure (.bool (← Op.equal ty u v)))) (h2 : binOp .neq ty u v = (do pure (.bool (!(← Op.equal ty u v)))))
    (he : (Op.equalIn (9999 + 1) ty u v).run P w = .ok e w) : (do eqGuard (eqOp neg) ty ox oy u v; binOp (eqOp neg) ty u v : Sem Value).run P w = .ok (.bool (negb neg e)) w := by
  rw [← equal_eq] at he
  simp only [Sem.run_bind, hg, Result.andThen_ok]
  cases neg
  · simp only [eqOp, h1, Sem.run_bind, he, Result.andThen_ok, Sem.run_pure]; rfl
  · simp only [eqOp, h2, Sem.run_bind, he, Result.andThen_ok, Sem.run_pure]; rfl

theorem eqN_slice (d : Nat) {ty e : TypeId} (hu : P.underlying ty = some (.slice e)) (a a' : Option Addr) (n c n' c' : Nat) (h : (a.isNone || a'.isNone) = true) :
    (Op.equalIn (d + 1) ty (.slice a n c) (.slice a' n' c')).run P w = .ok (a.isNone && a'.isNone) w := by
  unfold Op.equalIn
  rw [Sem.run_bind, run_underlying hu, Result.andThen_ok]
  cases a <;> cases a' <;> simp at h ⊢
theorem eqN_map (d : Nat) {ty k e : TypeId} (hu : P.underlying ty = some (.map k e)) (a a' : Option Nat) (h : (a.isNone || a'.isNone) = true) :
    (Op.equalIn (d + 1) ty (.map a) (.map a')).run P w = .ok (a.isNone && a'.isNone) w := by
  unfold Op.equalIn
  rw [Sem.run_bind, run_underlying hu, Result.andThen_ok]
  cases a <;> cases a' <;> simp at h ⊢
theorem eqN_ptr (d : Nat) {ty e : TypeId} (hu : P.underlying ty = some (.pointer e)) (a a' : Option Addr) (h : (a.isNone || a'.isNone) = true) :
    (Op.equalIn (d + 1) ty (.pointer a) (.pointer a')).run P w = .ok (a.isNone && a'.isNone) w := by
  unfold Op.equalIn
  rw [Sem.run_bind, run_underlying hu, Result.andThen_ok]
  cases a <;> cases a' <;> simp at h ⊢
def isFn : Value → Option Bool
  | .nilFunc => some true
  | .func .. => some false
  | _ => none
theorem eqN_fn (d : Nat) {ty : TypeId} {x y : Array TypeId} {z : Bool} (hu : P.underlying ty = some (.func x y z)) {u v : Value} {p q : Bool} (hp : isFn u = some p) (hq : isFn v = some q) (h : (p || q) = true) :
    (Op.equalIn (d + 1) ty u v).run P w = .ok (p && q) w := by
  unfold Op.equalIn
  rw [Sem.run_bind, run_underlying hu, Result.andThen_ok]
  cases u <;> simp only [isFn] at hp <;> (try (cases hp; done)) <;> cases v <;> simp only [isFn] at hq <;> (try (cases hq; done)) <;> (injection hp with hp; injection hq with hq; subst hp; subst hq) <;> simp at h ⊢

theorem isNil_slice {x : TV} {u : Value} {p : Bool} (hp : isNil 0 x = some p) (hx : VRel π w av ex x u) : ∃ a n c, u = .slice a n c ∧ a.isNone = p := by
  cases hx <;> simp only [isNil] at hp <;> (try (cases hp; done)) <;> (injection hp with hp; subst hp) <;> exact ⟨_, _, _, rfl, rfl⟩
theorem isNil_map {x : TV} {u : Value} {p : Bool} (hp : isNil 1 x = some p) (hx : VRel π w av ex x u) : ∃ a, u = .map a ∧ a.isNone = p := by
  cases hx <;> simp only [isNil] at hp <;> (try (cases hp; done)) <;> (injection hp with hp; subst hp) <;> exact ⟨_, rfl, rfl⟩
theorem isNil_ptr {x : TV} {u : Value} {p : Bool} (hp : isNil 2 x = some p) (hx : VRel π w av ex x u) : ∃ a, u = .pointer a ∧ a.isNone = p := by
  cases hx <;> simp only [isNil] at hp <;> (try (cases hp; done)) <;> (injection hp with hp; subst hp) <;> exact ⟨_, rfl, rfl⟩
theorem isNil_fn {x : TV} {u : Value} {p : Bool} (hp : isNil 3 x = some p) (hx : VRel π w av ex x u) : isFn u = some p := by
  cases hx <;> simp only [isNil] at hp <;> (try (cases hp; done)) <;> (injection hp with hp; subst hp) <;> rfl

theorem eqN_sound {kd : Nat} {neg : Bool} {x y : TV} {p q : Bool} {u v : Value} {ty : TypeId} {ox oy : Operand} (hn : nilT P ty kd = true) (hp : isNil kd x = some p) (hq : isNil kd y = some q) (hpq : (p || q) = true)
    (hx : VRel π w av ex x u) (hy : VRel π w av ex y v) :
    (do eqGuard (eqOp neg) ty ox oy u v; binOp (eqOp neg) ty u v : Sem Value).run P w = .ok (.bool (negb neg (p && q))) w := by
  unfold nilT at hn
  split at hn <;> try (cases hn; done)
  · rename_i hu
    obtain ⟨a, n, c, rfl, rfl⟩ := isNil_slice hp hx
    obtain ⟨a', n', c', rfl, rfl⟩ := isNil_slice hq hy
    refine eqN_run ?_ rfl rfl (eqN_slice 9999 hu a a' n c n' c' hpq)
    unfold eqGuard; cases neg <;> simp [eqOp]
  · rename_i hu
    obtain ⟨a, rfl, rfl⟩ := isNil_map hp hx
    obtain ⟨a', rfl, rfl⟩ := isNil_map hq hy
    refine eqN_run ?_ rfl rfl (eqN_map 9999 hu a a' hpq)
    unfold eqGuard; cases neg <;> simp [eqOp]
  · rename_i hu
    obtain ⟨a, rfl, rfl⟩ := isNil_ptr hp hx
    obtain ⟨a', rfl, rfl⟩ := isNil_ptr hq hy
    refine eqN_run ?_ rfl rfl (eqN_ptr 9999 hu a a' hpq)
    unfold eqGuard; cases neg <;> simp [eqOp]
  · rename_i hu
    have h1 := isNil_fn hp hx
    have h2 := isNil_fn hq hy
    refine eqN_run ?_ ?_ ?_ (eqN_fn 9999 hu h1 h2 hpq)
    · unfold eqGuard
      cases u <;> simp only [isFn] at h1 <;> (try (cases h1; done)) <;> cases v <;> simp only [isFn] at h2 <;> (try (cases h2; done)) <;> cases neg <;> simp [eqOp]
    · cases u <;> simp only [isFn] at h1 <;> (try (cases h1; done)) <;> cases v <;> simp only [isFn] at h2 <;> (try (cases h2; done)) <;> rfl
    · cases u <;> simp only [isFn] at h1 <;> (try (cases h1; done)) <;> cases v <;> simp only [isFn] at h2 <;> (try (cases h2; done)) <;> rfl

end Go.Dn
