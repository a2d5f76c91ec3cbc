/-
  The statement DiceOwn holds.
-/
import Derived.Test.YtijeefncmgjlpaaO3
import Derived.Test.YtijeefncmgjlpaaEo
import Derived.Test.YtijeefncmgjlpaaEq
import Derived.WalkKit
import Derived.ProofKit
set_option linter.unusedVariables false

namespace Go.Proofs.Ytijeefncmgjlpaa.diceOwn
open Go.ChangeShapes Go.WideShapes Go.ChangeAt Go.RowKit

theorem own : ownKnob Try.prog.godebug = none := by kernel_rfl

def Run : Prop := ∀ (t0 : Dn.TV) (l0 : List (List Int)), Dn.SSV t0 l0 -> l0.length <= 9223372036854775807 -> (∀ x ∈ l0, x.length <= 9223372036854775807) -> ∃ H, Dn.bodyRun Try.Dn.pg0 (Dn.den Try.Dn.pg0) 17 [t0] [] = some (.b true, H)

set_option maxRecDepth 100000 in
theorem walk (run : Run) {H : Type} {enc : TypeId × Value -> H} {W : World} {args : Array Value} {ds : List (DataW H)} {ps : List MemPlace} {base : Nat} (hval : ∀ (j : Nat) t v, (#[39] : Array TypeId)[j]? = some t -> args[j]? = some v -> Value.okWide Try.prog W .any base t v) (hA : DataW.TrodAll enc Try.prog W 0 (fun _ => true) true [39] args.toList ds ps) :
  Calls Try.prog 17 args W fun e w' => e = .returned (.bool true) /\ Below W.heap.size W w' := by
 obtain ⟨v0, vs0, d0, ds0, p0, q0, hh0, rfl, rfl, t0, r0⟩ := trodAll_cons hA
 obtain ⟨rfl, rfl, rfl⟩ := trodAll_nil r0
 obtain rfl : args = #[v0] := by cases args; simp_all
 obtain ⟨x0, s0, y0, l0, e0, o0, h0, g0⟩ := Dn.sees_one Try.Dn.reads39 (Dn.one_cell (hval 0 39 v0 rfl rfl) (by kernel_rfl)) t0
 simp only [List.cons.injEq, and_true] at e0
 subst e0
 obtain ⟨H1, hrun⟩ := run x0 l0 o0 (Try.Dn.sizes h0) (fun x hx => Try.Dn.sizes (g0 x hx))
 refine (Dn.body_calls Try.Dn.good0 (Dn.Tab.fns Try.Dn.tab_ok) hrun (us := #[v0]) (.cons _ _ _ _ s0 .nil) (Dn.GRel.none W _ _ _) (Nat.zero_le _)).mono fun e w' he => ?_
 obtain ⟨v, rfl, hb, π', av', hv, _⟩ := he
 exact ⟨by rw [hv.b_inv], hb⟩

set_option maxRecDepth 100000 in
theorem lifted (run : Run) (os : Os) (started : os.Started) (H : Type) (enc : TypeId × Value -> H) :
  ReturnsInHanded {} Try.checked os 17 .any (Rows.diceOwnSpec.pre6 enc Try.prog Try.f17 Rows.diceOwnRow.domain false) (Rows.diceOwnSpec.post enc Try.prog Try.f17 false true false false) := by
 refine returnsInHanded_of_change (C := Try.checked) own started (by kernel_rfl) Try.func17
  (ChangeSpec.witness6 (enc := enc) (C := Try.checked) false ⟨#[], #[.slice none 0 0], []⟩ 8 (by kernel_rfl) (by kernel_rfl) (by kernel_rfl) (by kernel_rfl)) ?_
 intro W base args ds gs before hval0 hW hcnd _
 have hval : ∀ (j : Nat) t v, Try.f17.params[j]? = some t -> args[j]? = some v -> Value.okWide Try.prog W .any base t v := hval0
 have hW' := hW
 obtain ⟨p, q, hA0, hV, rfl, hfz, hnd⟩ := hW
 have hA : DataW.TrodAll enc Try.prog W 0 (fun _ => true) true Try.f17.params.toList args.toList ds p := hA0
 rw [Try.params17] at hA hval
 obtain ⟨v0, vs0, d0, ds0, p0, q0, hh0, rfl, rfl, t0, r0⟩ := trodAll_cons hA
 obtain ⟨rfl, rfl, rfl⟩ := trodAll_nil r0
 obtain ⟨rfl, rfl⟩ := trodVars_none hV
 refine (walk run hval hA).mono fun e W' ⟨he, hg⟩ => ?_
 subst he
 exact ⟨_, rfl, Dn.law_post Try.Dn.laid (by kernel_rfl) rfl (by kernel_rfl) Try.underlying4 hW' ⟨rfl, rfl, rfl⟩ hg⟩

theorem over (run : Run) : Rows.diceOwnRow.holds Try.pinned (OpenSpec.ofChange Rows.diceOwnSpec) :=
 OpenClaim.holds_of_wide 17 Try.f17 rfl rfl rfl rfl rfl rfl rfl ⟨rfl, rfl, rfl, rfl, rfl⟩ rfl rfl rfl rfl rfl (by kernel_rfl) Try.func17 (by kernel_rfl)
  (of_decide_eq_true (by kernel_rfl)) (by unfold Func.isWrapper; first | (rw [if_pos (by decide +kernel)]; kernel_rfl) | (rw [if_neg (by decide +kernel)]; exact ⟨rfl, rfl⟩))
  (fun os started H enc _ => lifted run os started H enc)

theorem proved : Rows.DiceOwnSaid :=
 over fun t0 l0 h0 g0 k0 => Try.Dn.run17 Try.Dn.free0 Try.Dn.q0 Try.Dn.q1 Try.Dn.awake h0 g0 k0

end Go.Proofs.Ytijeefncmgjlpaa.diceOwn

