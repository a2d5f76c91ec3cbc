/-
  The statement PegOwn holds.
-/
import Derived.Test.YtegihfgibonhpaaPk
import Derived.Test.YtegihfgibonhpaaPb
import Derived.WalkKit
import Derived.ProofKit
set_option linter.unusedVariables false

namespace Go.Proofs.Ytegihfgibonhpaa.pegOwn
open Go.ChangeShapes Go.WideShapes Go.ChangeAt Go.RowKit

theorem own : ownKnob Try.prog.godebug = none := by kernel_rfl

def Run : Prop := ∀ (a : Int) (t : Dn.TV) (l : List Try.Dn.Line) (p : Int), Try.Dn.In64 a → Try.Dn.IsLines t l → Try.Dn.In64 p → ∃ H, Dn.bodyRun Try.Dn.pg2 (Dn.den Try.Dn.pg2) 14 [.i .i64 a, t, .i .i64 p] [] = some (.b true, H)

set_option maxRecDepth 100000 in
theorem walk (run : Run) {H : Type} {enc : TypeId × Value → H} {W : World} {args : Array Value} {ds : List (DataW H)} {ps : List MemPlace} {base : Nat} (hval : ∀ (j : Nat) t v, (#[3, 22, 3] : Array TypeId)[j]? = some t → args[j]? = some v → Value.okWide Try.prog W .any base t v) (hA : DataW.TrodAll enc Try.prog W 0 (fun _ => true) true [3, 22, 3] args.toList ds ps) :
    Calls Try.prog 14 args W fun e w' => e = .returned (.bool true) ∧ Below W.heap.size W w' := by
  obtain ⟨v0, vs0, d0, ds0, p0, q0, h0, rfl, rfl, t0, r0⟩ := trodAll_cons hA
  obtain ⟨v1, vs1, d1, ds1, p1, q1, rfl, rfl, rfl, t1, r1⟩ := trodAll_cons r0
  obtain ⟨v2, vs2, d2, ds2, p2, q2, rfl, rfl, rfl, t2, r2⟩ := trodAll_cons r1
  obtain ⟨rfl, rfl, rfl⟩ := trodAll_nil r2
  obtain rfl : args = #[v0, v1, v2] := by cases args; simp_all
  obtain ⟨x0, s0, n0, e0, o0⟩ := Dn.sees_one Try.Dn.reads3 (Dn.one_cell (hval 0 3 v0 rfl rfl) (by kernel_rfl)) t0
  obtain ⟨x1, s1, y1, l, e1, o1⟩ := Dn.sees_one Try.Dn.reads22 (Dn.one_cell (hval 1 22 v1 rfl rfl) (by kernel_rfl)) t1
  obtain ⟨x2, s2, n2, e2, o2⟩ := Dn.sees_one Try.Dn.reads3 (Dn.one_cell (hval 2 3 v2 rfl rfl) (by kernel_rfl)) t2
  simp only [List.cons.injEq, and_true] at e0 e1 e2
  subst e0 e1 e2
  obtain ⟨H1, hrun⟩ := run n0 x1 l n2 (Try.Dn.in64 o0) o1 (Try.Dn.in64 o2)
  refine (Dn.body_calls Try.Dn.good2 (Dn.Tab.fns Try.Dn.tab_ok) hrun (us := #[v0, v1, v2]) (.cons _ _ _ _ s0 (.cons _ _ _ _ s1 (.cons _ _ _ _ s2 .nil))) (Dn.GRel.none W _ _ _) (Nat.zero_le _)).mono fun e w' he => ?_
  obtain ⟨v, rfl, hb, π', av', hv, _⟩ := he
  exact ⟨by rw [hv.b_inv], hb⟩

set_option maxRecDepth 100000 in
theorem lifted (run : Run) (os : Os) (started : os.Started) (H : Type) (enc : TypeId × Value → H) :
    ReturnsInHanded {} Try.checked os 14 .any (Rows.pegOwnSpec.pre6 enc Try.prog Try.f14 Rows.pegOwnRow.domain false) (Rows.pegOwnSpec.post enc Try.prog Try.f14 false true false false) := by
  refine returnsInHanded_of_change (C := Try.checked) own started (by kernel_rfl) Try.func14
    (ChangeSpec.witness6 (enc := enc) (C := Try.checked) false ⟨#[], #[.int .i64 0, .slice none 0 0, .int .i64 0], []⟩ 8 (by kernel_rfl) (by kernel_rfl) (by kernel_rfl) (by kernel_rfl)) ?_
  intro W base args ds gs before hval0 hW hcnd _
  have hval : ∀ (j : Nat) t v, Try.f14.params[j]? = some t → args[j]? = some v → Value.okWide Try.prog W .any base t v := hval0
  have hW' := hW
  obtain ⟨p, q, hA0, hV, rfl, hfz, hnd⟩ := hW
  have hA : DataW.TrodAll enc Try.prog W 0 (fun _ => true) true Try.f14.params.toList args.toList ds p := hA0
  rw [Try.params14] at hA hval
  obtain ⟨v0, vs0, d0, ds0, p0, q0, h0, rfl, rfl, t0, r0⟩ := trodAll_cons hA
  obtain ⟨v1, vs1, d1, ds1, p1, q1, rfl, rfl, rfl, t1, r1⟩ := trodAll_cons r0
  obtain ⟨v2, vs2, d2, ds2, p2, q2, rfl, rfl, rfl, t2, r2⟩ := trodAll_cons r1
  obtain ⟨rfl, rfl, rfl⟩ := trodAll_nil r2
  obtain ⟨rfl, rfl⟩ := trodVars_none hV
  refine (walk run hval hA).mono fun e W' ⟨he, hg⟩ => ?_
  subst he
  exact ⟨_, rfl, Dn.law_post Try.Dn.laid (by kernel_rfl) rfl (by kernel_rfl) Try.underlying4 hW' ⟨rfl, rfl, rfl⟩ hg⟩

theorem over (run : Run) : Rows.pegOwnRow.holds Try.pinned (OpenSpec.ofChange Rows.pegOwnSpec) :=
  OpenClaim.holds_of_wide 14 Try.f14 rfl rfl rfl rfl rfl rfl rfl ⟨rfl, rfl, rfl, rfl, rfl⟩ rfl rfl rfl rfl rfl (by kernel_rfl) Try.func14 (by kernel_rfl)
    (of_decide_eq_true (by kernel_rfl)) (by unfold Func.isWrapper; first | (rw [if_pos (by decide +kernel)]; kernel_rfl) | (rw [if_neg (by decide +kernel)]; exact ⟨rfl, rfl⟩))
    (fun os started H enc _ => lifted run os started H enc)

theorem proved : Rows.PegOwnSaid :=
  over fun a t l p _ ht _ => Try.Dn.run14 Try.Dn.free2 rfl (.inl rfl) a t l p ht

end Go.Proofs.Ytegihfgibonhpaa.pegOwn

