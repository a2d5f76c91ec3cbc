/-
  The statement KnightOwn holds, with its card.
-/
import Derived.Test.YtdjbpmgbaggfbaaDoorCards
import Derived.Test.YtdjbpmgbaggfbaaDoorTie
import Derived.Test.YtdjbpmgbaggfbaaDoorKfx0
import Derived.Test.YtdjbpmgbaggfbaaDoorKi
import Derived.Test.YtdjbpmgbaggfbaaDoorKh
import Derived.WalkKit
import Derived.ProofKit
import Derived.Handy
import Derived.Lay
import Derived.SevenTiedAt
set_option linter.unusedVariables false

namespace Go.Proofs.YtdjbpmgbaggfbaaDoor.knightOwn
open Go.ChangeShapes Go.WideShapes Go.ChangeAt Go.RowKit

theorem own : ownKnob Tryd.prog.godebug = none := by kernel_rfl

def Run : Prop := ∀ (n0 : Int) (n1 : Int) (t2 : Dn.TV) (l2 : List Int), Dn.SV t2 l2 → l2.length ≤ 9223372036854775807 → ∃ H, Dn.bodyRun Tryd.Dn.pg0 (Dn.den Tryd.Dn.pg0) 16 [.i .i64 n0, .i .i64 n1, t2] [] = some (.b true, H)

theorem sizes {n : Nat} (h : n ≤ maxLen) : n ≤ 9223372036854775807 := by unfold maxLen at h; omega

set_option maxRecDepth 100000 in
theorem walk (run : Run) {H : Type} {enc : TypeId × Value → H} {W : World} {args : Array Value} {ds : List (DataW H)} {ps : List MemPlace} {base : Nat} (hval : ∀ (j : Nat) t v, (#[3, 3, 24] : Array TypeId)[j]? = some t → args[j]? = some v → Value.okWide Tryd.prog W .any base t v) (hA : DataW.TrodAll enc Tryd.prog W 0 (fun _ => true) true [3, 3, 24] args.toList ds ps)
    (hL : laidMetH Tryd.prog [("math/bits.deBruijn64tab", Rows.laid_math_bits_deBruijn64tab)] W) :
    Calls Tryd.prog 16 args W fun e w' => e = .returned (.bool true) ∧ Below W.heap.size W w' := by
  obtain ⟨v0, vs0, d0, ds0, p0, q0, h0, rfl, rfl, t0, r0⟩ := trodAll_cons hA
  obtain ⟨v1, vs1, d1, ds1, p1, q1, rfl, rfl, rfl, t1, r1⟩ := trodAll_cons r0
  obtain ⟨v2, vs2, d2, ds2, p2, q2, rfl, rfl, rfl, t2, r2⟩ := trodAll_cons r1
  obtain ⟨rfl, rfl, rfl⟩ := trodAll_nil r2
  obtain rfl : args = #[v0, v1, v2] := by cases args; simp_all
  obtain ⟨x0, s0, n0, e0⟩ := Dn.sees_one Tryd.Dn.reads3 (Dn.one_cell (hval 0 3 v0 rfl rfl) (by kernel_rfl)) t0
  obtain ⟨x1, s1, n1, e1⟩ := Dn.sees_one Tryd.Dn.reads3 (Dn.one_cell (hval 1 3 v1 rfl rfl) (by kernel_rfl)) t1
  obtain ⟨x2, s2, y2, l2, e2, o2, hl2⟩ := Dn.sees_one Tryd.Dn.reads24 (Dn.one_cell (hval 2 24 v2 rfl rfl) (by kernel_rfl)) t2
  simp only [List.cons.injEq, and_true] at e0 e1 e2
  subst e0 e1 e2
  obtain ⟨H1, hrun⟩ := run n0 n1 x2 l2 o2 (sizes hl2)
  have hg := Tryd.Dn.grel hL
  have hz : 1 ≤ W.heap.size := by
    have h0 := Tryd.Dn.whole_cells hL
    have := Dn.MemAt.lt h0 (fun h => absurd (congrArg List.length h) (by rw [List.length_map, Tryd.Dn.deB_len]; decide))
    omega
  refine (Dn.body_calls Tryd.Dn.good0 (Dn.Tab.fns Tryd.Dn.tab_ok) hrun (us := #[v0, v1, v2]) (.cons _ _ _ _ s0 (.cons _ _ _ _ s1 (.cons _ _ _ _ s2 .nil))) hg hz).mono fun e w' he => ?_
  obtain ⟨v, rfl, hb, π', av', hv, _⟩ := he
  exact ⟨by rw [hv.b_inv], hb⟩

set_option maxRecDepth 100000 in
theorem lifted (run : Run) (os : Os) (started : os.Started) (H : Type) (enc : TypeId × Value → H) :
    ReturnsInHanded {} Tryd.checked os 16 .any (fun w args => (Rows.knightOwnSpec.pre enc Tryd.prog Tryd.f16 [] false w args ∧ laidMetH Tryd.prog [("math/bits.deBruijn64tab", Rows.laid_math_bits_deBruijn64tab)] w) ∧ sizedMet enc Tryd.prog Tryd.f16 (OpenSpec.ofChange Rows.knightOwnSpec) false w args)
      (Rows.knightOwnSpec.post enc Tryd.prog Tryd.f16 false true false false) := by
  refine returnsInHanded_of_change_and (C := Tryd.checked) (X := fun w _ => laidMetH Tryd.prog [("math/bits.deBruijn64tab", Rows.laid_math_bits_deBruijn64tab)] w) (fun _ _ _ hh h => h.of_heap hh) own started (by kernel_rfl) Tryd.func16
    (ChangeSpec.witness_shaped (enc := enc) (C := Tryd.checked) (os := os) (X := fun w _ => laidMetH Tryd.prog [("math/bits.deBruijn64tab", Rows.laid_math_bits_deBruijn64tab)] w) false (World.laidAll Tryd.prog os [("math/bits.deBruijn64tab", Rows.laid_math_bits_deBruijn64tab)]) #[.int .i64 0, .int .i64 0, .slice none 0 0] 8 (World.laidAll_os _ _ _)
      (World.shaped_of_ZipB (by kernel_rfl) (by kernel_rfl)) (by kernel_rfl) (by kernel_rfl) (by kernel_rfl)
      (by rw [MakeChecks.laidMetH_plain _ _ _ (by kernel_rfl)]; exact laidMet_laidAll _ (by kernel_rfl) (by kernel_rfl))) ?_
  intro W base args ds gs before hval0 hW _ _ hL _
  have hval : ∀ (j : Nat) t v, Tryd.f16.params[j]? = some t → args[j]? = some v → Value.okWide Tryd.prog W .any base t v := hval0
  have hW' := hW
  obtain ⟨p, q, hA0, hV, rfl, hfz, hnd⟩ := hW
  have hA : DataW.TrodAll enc Tryd.prog W 0 (fun _ => true) true Tryd.f16.params.toList args.toList ds p := hA0
  rw [Tryd.params16] at hA hval
  obtain ⟨v0, vs0, d0, ds0, p0, q0, h0, rfl, rfl, t0, r0⟩ := trodAll_cons hA
  obtain ⟨v1, vs1, d1, ds1, p1, q1, rfl, rfl, rfl, t1, r1⟩ := trodAll_cons r0
  obtain ⟨v2, vs2, d2, ds2, p2, q2, rfl, rfl, rfl, t2, r2⟩ := trodAll_cons r1
  obtain ⟨rfl, rfl, rfl⟩ := trodAll_nil r2
  obtain ⟨rfl, rfl⟩ := trodVars_none hV
  refine (walk run hval hA hL).mono fun e W' ⟨he, hg⟩ => ?_
  subst he
  exact ⟨_, rfl, Dn.law_post Tryd.Dn.laid (by kernel_rfl) rfl (by kernel_rfl) Tryd.underlying4 hW' ⟨rfl, rfl, rfl⟩ hg⟩

theorem over (run : Run) : Rows.KnightOwnSaid :=
  OpenClaim.holds_of_wide 16 Tryd.f16 rfl rfl rfl rfl rfl rfl rfl ⟨rfl, rfl, rfl, rfl, rfl⟩ rfl rfl rfl rfl rfl (by kernel_rfl) Tryd.func16 (by kernel_rfl)
    (of_decide_eq_true (by kernel_rfl)) (by unfold Func.isWrapper; first | (rw [if_pos (by decide +kernel)]; kernel_rfl) | (rw [if_neg (by decide +kernel)]; exact ⟨rfl, rfl⟩))
    (fun os started H enc _ => lifted run os started H enc)

theorem holds : Rows.KnightOwnSaid := over fun x y t l ht hl => Tryd.Dn.run16 Tryd.Dn.free0 Tryd.Dn.awake x y ht hl

theorem card_holds : Rows.KnightOwnCardSaid :=
  Claim7.holds_tied_plain_at .later [] [.data] true (true, "5dfa758c4d8318a384d82922247a2c92f0a4f093a08ea0e5cb6ec208c917765b") false holds (fun _ h => by cases h) (by kernel_rfl) (fun _ h => by cases h) knightOwn_row_tie rfl ⟨rfl, rfl⟩ (by kernel_rfl) rfl
    (fun f fn hf hfn => by
      obtain rfl : f = 16 := Option.some.inj ((show Tryd.prog.funcNamed "bibelot/bibelotlaw06.KnightOwn" = some 16 by kernel_rfl).symm.trans hf) |>.symm
      obtain rfl : fn = Tryd.f16 := (Option.some.inj (Tryd.func16.symm.trans hfn)).symm
      exact ⟨by kernel_rfl, fun j t ht => by
        rw [Tryd.params16] at ht
        have hm : t ∈ [3, 3, 24] := by simpa using Array.mem_of_getElem? ht
        have hall : ([3, 3, 24].all fun u => !Tryd.prog.wantsStandIn u) = true := by kernel_rfl
        exact (show Tryd.prog.wantsStandIn t = false by simpa using List.all_eq_true.1 hall t hm)⟩)
    (by kernel_rfl)

end Go.Proofs.YtdjbpmgbaggfbaaDoor.knightOwn

