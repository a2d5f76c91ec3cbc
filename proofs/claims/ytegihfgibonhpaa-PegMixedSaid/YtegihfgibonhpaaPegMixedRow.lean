/-
  The statement PegMixed holds.
-/
import Derived.Test.YtegihfgibonhpaaPm
import Derived.Test.YtegihfgibonhpaaPc
import Derived.Test.YtegihfgibonhpaaPb
import Derived.WalkKit
import Derived.ProofKit
set_option linter.unusedVariables false

namespace Go.Proofs.Ytegihfgibonhpaa.pegMixed
open Go.ChangeShapes Go.WideShapes Go.ChangeAt Go.RowKit

theorem own : ownKnob Try.prog.godebug = none := by kernel_rfl

theorem agg49 : Dn.aggT Try.prog 49 = true := by kernel_rfl

def Run : Prop := ∀ (a : Int) (t : Dn.TV) (l : List Try.Dn.Line) (P Q C : Int), Try.Dn.IsLines t l → ∃ H, Dn.bodyRun Try.Dn.pg2 (Dn.den Try.Dn.pg2) 15 [.i .i64 a, t, .agg [.i .i64 P, .i .i64 Q, .i .i64 C]] [] = some (.b true, H)

set_option maxRecDepth 100000 in
theorem walk (run : Run) {H : Type} {enc : TypeId × Value → H} {W : World} {args : Array Value} {ds : List (DataW H)} {ps : List MemPlace} {base : Nat} (hval : ∀ (j : Nat) t v, (#[3, 22, 49] : Array TypeId)[j]? = some t → args[j]? = some v → Value.okWide Try.prog W .any base t v) (hA : DataW.TrodAll enc Try.prog W 0 (fun _ => true) true [3, 22, 49] args.toList ds ps) :
    Calls Try.prog 15 args W fun e w' => e = .returned (.bool true) ∧ Below W.heap.size W w' := by
  obtain ⟨v0, vs0, d0, ds0, p0, q0, h0, rfl, rfl, t0, r0⟩ := trodAll_cons hA
  obtain ⟨v1, vs1, d1, ds1, p1, q1, rfl, rfl, rfl, t1, r1⟩ := trodAll_cons r0
  obtain ⟨v2, vs2, d2, ds2, p2, q2, rfl, rfl, rfl, t2, r2⟩ := trodAll_cons r1
  obtain ⟨rfl, rfl, rfl⟩ := trodAll_nil r2
  obtain rfl : args = #[v0, v1, v2] := by cases args; simp_all
  obtain ⟨x0, s0, n0, e0, o0⟩ := Dn.sees_one Try.Dn.reads3 (Dn.one_cell (hval 0 3 v0 rfl rfl) (by kernel_rfl)) t0
  obtain ⟨x1, s1, y1, l, e1, o1⟩ := Dn.sees_one Try.Dn.reads22 (Dn.one_cell (hval 1 22 v1 rfl rfl) (by kernel_rfl)) t1
  obtain ⟨cs, rfl⟩ := Try.Dn.agg_of (hval 2 49 v2 rfl rfl) agg49
  obtain ⟨ts, s2, x, e2, o2⟩ := Dn.sees_agg Try.Dn.reads49 t2
  subst e2
  simp only [List.cons.injEq, and_true] at e0 e1
  subst e0 e1
  obtain ⟨H1, hrun⟩ := run n0 x1 l x.1 x.2.1 x.2.2 o1
  refine (Dn.body_calls Try.Dn.good2 (Dn.Tab.fns Try.Dn.tab_ok) hrun (us := #[v0, v1, .agg cs]) (.cons _ _ _ _ s0 (.cons _ _ _ _ s1 (.cons _ _ _ _ s2 .nil))) (Dn.GRel.none W _ _ _) (Nat.zero_le _)).mono fun e w' he => ?_
  obtain ⟨v, rfl, hb, π', av', hv, _⟩ := he
  exact ⟨by rw [hv.b_inv], hb⟩

set_option maxRecDepth 100000 in
theorem lifted (run : Run) (os : Os) (started : os.Started) (H : Type) (enc : TypeId × Value → H) :
    ReturnsInHanded {} Try.checked os 15 .any (Rows.pegMixedSpec.pre6 enc Try.prog Try.f15 Rows.pegMixedRow.domain false) (Rows.pegMixedSpec.post enc Try.prog Try.f15 false true false false) := by
  refine returnsInHanded_of_change (C := Try.checked) own started (by kernel_rfl) Try.func15
    (ChangeSpec.witness6 (enc := enc) (C := Try.checked) false ⟨#[], #[.int .i64 0, .slice none 0 0, .agg #[.int .i64 0, .int .i64 0, .int .i64 0]], []⟩ 8 (by kernel_rfl) (by kernel_rfl) (by kernel_rfl) (by kernel_rfl)) ?_
  intro W base args ds gs before hval0 hW hcnd _
  have hval : ∀ (j : Nat) t v, Try.f15.params[j]? = some t → args[j]? = some v → Value.okWide Try.prog W .any base t v := hval0
  have hW' := hW
  obtain ⟨p, q, hA0, hV, rfl, hfz, hnd⟩ := hW
  have hA : DataW.TrodAll enc Try.prog W 0 (fun _ => true) true Try.f15.params.toList args.toList ds p := hA0
  rw [Try.params15] at hA hval
  obtain ⟨v0, vs0, d0, ds0, p0, q0, h0, rfl, rfl, t0, r0⟩ := trodAll_cons hA
  obtain ⟨v1, vs1, d1, ds1, p1, q1, rfl, rfl, rfl, t1, r1⟩ := trodAll_cons r0
  obtain ⟨v2, vs2, d2, ds2, p2, q2, rfl, rfl, rfl, t2, r2⟩ := trodAll_cons r1
  obtain ⟨rfl, rfl, rfl⟩ := trodAll_nil r2
  obtain ⟨rfl, rfl⟩ := trodVars_none hV
  refine (walk run hval hA).mono fun e W' ⟨he, hg⟩ => ?_
  subst he
  exact ⟨_, rfl, Dn.law_post Try.Dn.laid (by kernel_rfl) rfl (by kernel_rfl) Try.underlying4 hW' ⟨rfl, rfl, rfl⟩ hg⟩

theorem over (run : Run) : Rows.pegMixedRow.holds Try.pinned (OpenSpec.ofChange Rows.pegMixedSpec) :=
  OpenClaim.holds_of_wide 15 Try.f15 rfl rfl rfl rfl rfl rfl rfl ⟨rfl, rfl, rfl, rfl, rfl⟩ rfl rfl rfl rfl rfl (by kernel_rfl) Try.func15 (by kernel_rfl)
    (of_decide_eq_true (by kernel_rfl)) (by unfold Func.isWrapper; first | (rw [if_pos (by decide +kernel)]; kernel_rfl) | (rw [if_neg (by decide +kernel)]; exact ⟨rfl, rfl⟩))
    (fun os started H enc _ => lifted run os started H enc)

theorem proved : Rows.PegMixedSaid :=
  over fun a t l P Q C ht => Try.Dn.run15 Try.Dn.free2 rfl (.inl rfl) a t l P Q C ht

end Go.Proofs.Ytegihfgibonhpaa.pegMixed

