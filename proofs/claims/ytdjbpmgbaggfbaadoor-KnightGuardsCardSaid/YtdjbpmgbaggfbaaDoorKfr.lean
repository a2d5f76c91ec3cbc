/-
  Knight: what the search for a tour keeps: the way, and what it knows to lead nowhere.
-/
import Derived.Test.YtdjbpmgbaggfbaaDoorKfq
set_option linter.unusedSimpArgs false
set_option linter.unusedVariables false

namespace Go.Proofs.Tryd.Dn
open Go.Dn

theorem Wy.own2 {H : Heap} {t : TV} {l : List Int} (h : Wy H t l) (hl : 2 ≤ l.length) : elI.Own H t l := by
  rcases h with h | ⟨id, v, rfl, rfl, h⟩
  · exact h
  · simp at hl
theorem Wy.one {H : Heap} {t : TV} {l : List Int} (h : Wy H t l) : t.isAgg = false ∧ t.one = true := by
  rcases h with (⟨rfl, _⟩ | ⟨_, id, ag, c, rfl, _⟩) | ⟨id, v, rfl, _, _⟩ <;> exact ⟨rfl, rfl⟩

theorem Wy.cut {H : Heap} {t : TV} {l : List Int} {w : Int} (h : Wy H t (l ++ [w])) (hl : l ≠ []) :
    ∃ t', slcRun false true false 1 false t [.i .i64 (l.length : Int)] = some t' ∧ Wy H t' l ∧ t'.idOf = t.idOf := by
  have hp : 1 ≤ l.length := List.length_pos_iff.2 hl
  rcases h.own2 (by simp; omega) with ⟨_, h0⟩ | ⟨_, id, ag, c, rfl, h1, h2, h3⟩
  · simp at h0
  · refine ⟨.sl id 0 1 false l.length none, ?_, .inl (.inr ⟨hl, id, ag, c, rfl, h1, ?_, ?_⟩), rfl⟩
    · have e1 : (elI.sz) = 1 := rfl
      have e2 : (elI.ag) = false := rfl
      have hb : bounds3 false true false (l ++ [w]).length [.i .i64 (l.length : Int)] = some (0, l.length, none) := by
        simp [bounds3, bound]
      rw [e1, e2]
      simp only [slcRun, hb, Option.bind_some]
      simp
    · simp only [List.length_append, List.length_singleton] at h2
      have e1 : (elI.sz) = 1 := rfl
      rw [e1] at h2 ⊢; omega
    · have e1 : (elI.sz) = 1 := rfl
      rw [e1] at h2 h3 ⊢
      have h4 := congrArg (List.take (l.length * 1)) h3
      rw [List.take_take] at h4
      rw [show min (l.length * 1) ((l ++ [w]).length * 1) = l.length * 1 by simp] at h4
      rw [h4, El.flat_append]
      have e5 : (elI.flat l).length = l.length * 1 := El.flat_len elI l
      rw [← e5, List.take_left']
      rfl

def KnOk (c first : Nat) (closed : Bool) (es : List (TV × TV × Nat)) : Prop :=
  ∀ x, x ∈ es → ∃ a l ck : Nat, x = (.agg [.i .i64 (a : Int), .i .u64 (l : Int)], .b true, ck) ∧ ∀ p, ¬ Compl c first closed a l p

theorem KnOk.look {c first a l : Nat} {closed : Bool} : ∀ {es : List (TV × TV × Nat)}, KnOk c first closed es → ∃ q, findK (.flat [true, true]) (.agg [.i .i64 (a : Int), .i .u64 (l : Int)]) es = some q ∧ ∀ i v, q = some (i, v) → v = .b true ∧ ∀ p, ¬ Compl c first closed a l p
  | [], _ => ⟨none, rfl, fun i v h => by cases h⟩
  | x :: es, h => by
    obtain ⟨a', l', ck, hx, hn⟩ := h x (by simp)
    obtain ⟨q, q1, q2⟩ := KnOk.look (a := a) (l := l) (es := es) fun y hy => h y (by simp [hy])
    subst hx
    have he : eqK (.flat [true, true]) (.agg [.i .i64 (a : Int), .i .u64 (l : Int)]) (.agg [.i .i64 (a' : Int), .i .u64 (l' : Int)]) = some (((a : Int) == (a' : Int)) && ((l : Int) == (l' : Int))) := by
      simp [eqK, eqL, eqS]
    rw [findK, he, Option.bind_some]
    by_cases hal : a = a' ∧ l = l'
    · obtain ⟨rfl, rfl⟩ := hal
      refine ⟨some (0, .b true), by simp, fun i v hiv => ?_⟩
      cases hiv
      exact ⟨rfl, hn⟩
    · have hf : (((a : Int) == (a' : Int)) && ((l : Int) == (l' : Int))) = false := by
        by_cases h1 : a = a'
        · rw [beqF (x := (l : Int)) (y := (l' : Int)) (by intro e; exact hal ⟨h1, by omega⟩), Bool.and_false]
        · rw [beqF (x := (a : Int)) (y := (a' : Int)) (by omega), Bool.false_and]
      rw [hf, q1]
      refine ⟨q.map fun x => (x.1 + 1, x.2), ?_, fun i v hiv => ?_⟩
      · cases q <;> simp
      · cases q with
        | none => cases hiv
        | some y =>
          cases hiv
          exact q2 y.1 y.2 rfl

end Go.Proofs.Tryd.Dn

/-
  Knight: the search for a tour.
-/

namespace Go.Proofs.Tryd.Dn
open Go.Dn

def sF : TV := .fn 89 [] [.ref 2 0, .ref 0 0, .ref 1 0, .ref 4 0, .ref 6 0, .ref 7 0]

structure SE (r c first : Nat) (closed : Bool) (H : Heap) (O : TV) (p : List Int) : Prop where
  b : H[0]? = some (.cells [.bp true (.agg (bM r c))] false)
  f : H[1]? = some (.cells [.i .i64 (first : Int)] false)
  cl : H[2]? = some (.cells [.b closed] false)
  k : ∃ es ck, H[3]? = some (.map es ck) ∧ KnOk c first closed es
  m : H[4]? = some (.cells [.mp 3] false)
  o : H[6]? = some (.cells [O] false)
  s : H[7]? = some (.cells [sF] false)
  w : Wy H O p
  id : ∀ id, O.idOf = some id → id = 5 ∨ 8 ≤ id

theorem SE.len {r c first : Nat} {closed : Bool} {H : Heap} {O : TV} {p : List Int} (h : SE r c first closed H O p) : 8 ≤ H.length := by
  have := (List.getElem?_eq_some_iff.1 h.s).1; omega

theorem SE.mono {r c first : Nat} {closed : Bool} {H H' : Heap} {O : TV} {p : List Int} (h : SE r c first closed H O p) (hf : ∀ j, j < 8 → j ≠ 5 → H'[j]? = H[j]?) (ho : ∀ j, O.idOf = some j → H'[j]? = H[j]?) : SE r c first closed H' O p :=
  ⟨by rw [hf 0 (by omega) (by omega)]; exact h.b, by rw [hf 1 (by omega) (by omega)]; exact h.f, by rw [hf 2 (by omega) (by omega)]; exact h.cl, by rw [hf 3 (by omega) (by omega)]; exact h.k, by rw [hf 4 (by omega) (by omega)]; exact h.m, by rw [hf 6 (by omega) (by omega)]; exact h.o, by rw [hf 7 (by omega) (by omega)]; exact h.s, h.w.mono ho, h.id⟩

theorem SE.app {r c first : Nat} {closed : Bool} {H : Heap} {O : TV} {p : List Int} (h : SE r c first closed H O p) (new : Heap) : SE r c first closed (H ++ new) O p :=
  h.mono (fun j hj _ => by rw [List.getElem?_append_left (by have := h.len; omega)]) (fun j hj => by rw [List.getElem?_append_left (h.w.lt j hj)])

end Go.Proofs.Tryd.Dn

/-
  Knight: what the search for a tour finds.
-/

namespace Go.Proofs.Tryd.Dn
open Go.Dn

theorem CmpOk.mono {pg : Pg} {F t : TV} {H0 : Heap} {ok ok' : Int → Prop} (h : CmpOk pg F t H0 ok) (hk : ∀ x, ok' x → ok x) : CmpOk pg F t H0 ok' := fun H a b x y hx hy => h H a b x y (hk x hx) (hk y hy)

theorem left_less {left s : Nat} (hl : left < 18446744073709551616) (hs : s < 64) (hb : left.testBit s = true) : (mem64 (andN left (2 ^ s))).length + 1 ≤ (mem64 left).length := by
  have hle := andN_le left (2 ^ s) hl
  have h1 := sub_len (s :: mem64 (andN left (2 ^ s))) (mem64 left) (List.nodup_cons.2 ⟨fun hm => by
      have := (mem_mem64 (by omega)).1 hm
      rw [andN_two hl hs] at this
      simp at this, mem64_nodup _⟩) fun x hx => by
    rcases List.mem_cons.1 hx with rfl | hx
    · exact (mem_mem64 hl).2 hb
    · have := (mem_mem64 (by omega)).1 hx
      rw [andN_two hl hs] at this
      simp only [Bool.and_eq_true] at this
      exact (mem_mem64 hl).2 this.1
  simpa using h1

end Go.Proofs.Tryd.Dn

