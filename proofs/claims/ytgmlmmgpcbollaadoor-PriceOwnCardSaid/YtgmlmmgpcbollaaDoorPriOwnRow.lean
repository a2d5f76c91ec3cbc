/-
  The statement PriceOwn holds, with its card.
-/
import Derived.Test.YtgmlmmgpcbollaaDoorCards
import Derived.Test.YtgmlmmgpcbollaaDoorTie
import Derived.Test.YtgmlmmgpcbollaaDoorQy
import Derived.Test.YtgmlmmgpcbollaaDoorQc
import Derived.WalkKit
import Derived.ProofKit
import Derived.Handy
import Derived.Lay
import Derived.SevenTiedAt
set_option linter.unusedVariables false

namespace Go.Proofs.YtgmlmmgpcbollaaDoor.priceOwn
open Go.ChangeShapes Go.WideShapes Go.ChangeAt Go.RowKit

theorem own : ownKnob Tryd.prog.godebug = none := by kernel_rfl

def Run : Prop := ∀ (t0 : Dn.TV) (l0 : List Tryd.Dn.Obs) (n1 : Int), Dn.Rws t0 l0 → l0.length ≤ 9223372036854775807 → ∃ H, Dn.bodyRun Tryd.Dn.pg2 (Dn.den Tryd.Dn.pg2) 7 [t0, .i .i64 n1] [] = some (.b true, H)

theorem sizes {n : Nat} (h : n ≤ maxLen) : n ≤ 9223372036854775807 := by unfold maxLen at h; omega

set_option maxRecDepth 100000 in
theorem walk (run : Run) {H : Type} {enc : TypeId × Value → H} {W : World} {args : Array Value} {ds : List (DataW H)} {ps : List MemPlace} {base : Nat} (hval : ∀ (j : Nat) t v, (#[22, 3] : Array TypeId)[j]? = some t → args[j]? = some v → Value.okWide Tryd.prog W .any base t v) (hA : DataW.TrodAll enc Tryd.prog W 0 (fun _ => true) true [22, 3] args.toList ds ps)
    (hL : laidMetH Tryd.prog [("bibelot/price.whole", Rows.laid_bibelot_price_whole)] W) :
    Calls Tryd.prog 7 args W fun e w' => e = .returned (.bool true) ∧ Below W.heap.size W w' := by
  obtain ⟨v0, vs0, d0, ds0, p0, q0, h0, rfl, rfl, t0, r0⟩ := trodAll_cons hA
  obtain ⟨v1, vs1, d1, ds1, p1, q1, rfl, rfl, rfl, t1, r1⟩ := trodAll_cons r0
  obtain ⟨rfl, rfl, rfl⟩ := trodAll_nil r1
  obtain rfl : args = #[v0, v1] := by cases args; simp_all
  obtain ⟨x0, s0, y0, l0, e0, o0, hl0⟩ := Dn.sees_one Tryd.Dn.reads22 (Dn.one_cell (hval 0 22 v0 rfl rfl) (by kernel_rfl)) t0
  obtain ⟨x1, s1, n1, e1⟩ := Dn.sees_one Tryd.Dn.reads3 (Dn.one_cell (hval 1 3 v1 rfl rfl) (by kernel_rfl)) t1
  simp only [List.cons.injEq, and_true] at e0 e1
  subst e0 e1
  obtain ⟨H1, hrun⟩ := run x0 l0 n1 o0 (sizes hl0)
  have hg := Tryd.Dn.grel hL
  have hz : 1 ≤ W.heap.size := by
    have h0 := Tryd.Dn.whole_cells hL
    have := Dn.MemAt.lt h0 (by simp)
    omega
  refine (Dn.body_calls Tryd.Dn.good2 (Dn.Tab.fns Tryd.Dn.tab_ok) hrun (us := #[v0, v1]) (.cons _ _ _ _ s0 (.cons _ _ _ _ s1 .nil)) hg hz).mono fun e w' he => ?_
  obtain ⟨v, rfl, hb, π', av', hv, _⟩ := he
  exact ⟨by rw [hv.b_inv], hb⟩

set_option maxRecDepth 100000 in
theorem lifted (run : Run) (os : Os) (started : os.Started) (H : Type) (enc : TypeId × Value → H) :
    ReturnsInHanded {} Tryd.checked os 7 .any (fun w args => (Rows.priceOwnSpec.pre enc Tryd.prog Tryd.f7 [] false w args ∧ laidMetH Tryd.prog [("bibelot/price.whole", Rows.laid_bibelot_price_whole)] w) ∧ sizedMet enc Tryd.prog Tryd.f7 (OpenSpec.ofChange Rows.priceOwnSpec) false w args)
      (Rows.priceOwnSpec.post enc Tryd.prog Tryd.f7 false true false false) := by
  refine returnsInHanded_of_change_and (C := Tryd.checked) (X := fun w _ => laidMetH Tryd.prog [("bibelot/price.whole", Rows.laid_bibelot_price_whole)] w) (fun _ _ _ hh h => h.of_heap hh) own started (by kernel_rfl) Tryd.func7
    (ChangeSpec.witness_shaped (enc := enc) (C := Tryd.checked) (os := os) (X := fun w _ => laidMetH Tryd.prog [("bibelot/price.whole", Rows.laid_bibelot_price_whole)] w) false (World.laidAll Tryd.prog os [("bibelot/price.whole", Rows.laid_bibelot_price_whole)]) #[.slice none 0 0, .int .i64 0] 8 (World.laidAll_os _ _ _)
      (World.shaped_of_ZipB (by kernel_rfl) (by kernel_rfl)) (by kernel_rfl) (by kernel_rfl) (by kernel_rfl)
      (by rw [MakeChecks.laidMetH_plain _ _ _ (by kernel_rfl)]; exact laidMet_laidAll _ (by kernel_rfl) (by kernel_rfl))) ?_
  intro W base args ds gs before hval0 hW _ _ hL _
  have hval : ∀ (j : Nat) t v, Tryd.f7.params[j]? = some t → args[j]? = some v → Value.okWide Tryd.prog W .any base t v := hval0
  have hW' := hW
  obtain ⟨p, q, hA0, hV, rfl, hfz, hnd⟩ := hW
  have hA : DataW.TrodAll enc Tryd.prog W 0 (fun _ => true) true Tryd.f7.params.toList args.toList ds p := hA0
  rw [Tryd.params7] at hA hval
  obtain ⟨v0, vs0, d0, ds0, p0, q0, h0, rfl, rfl, t0, r0⟩ := trodAll_cons hA
  obtain ⟨v1, vs1, d1, ds1, p1, q1, rfl, rfl, rfl, t1, r1⟩ := trodAll_cons r0
  obtain ⟨rfl, rfl, rfl⟩ := trodAll_nil r1
  obtain ⟨rfl, rfl⟩ := trodVars_none hV
  refine (walk run hval hA hL).mono fun e W' ⟨he, hg⟩ => ?_
  subst he
  exact ⟨_, rfl, Dn.law_post Tryd.Dn.laid (by kernel_rfl) rfl (by kernel_rfl) Tryd.underlying4 hW' ⟨rfl, rfl, rfl⟩ hg⟩

theorem over (run : Run) : Rows.PriceOwnSaid :=
  OpenClaim.holds_of_wide 7 Tryd.f7 rfl rfl rfl rfl rfl rfl rfl ⟨rfl, rfl, rfl, rfl, rfl⟩ rfl rfl rfl rfl rfl (by kernel_rfl) Tryd.func7 (by kernel_rfl)
    (of_decide_eq_true (by kernel_rfl)) (by unfold Func.isWrapper; first | (rw [if_pos (by decide +kernel)]; kernel_rfl) | (rw [if_neg (by decide +kernel)]; exact ⟨rfl, rfl⟩))
    (fun os started H enc _ => lifted run os started H enc)

theorem holds : Rows.PriceOwnSaid := over fun t l n ht hl => Tryd.Dn.run7 Tryd.Dn.free2 (.inl rfl) ht hl n

theorem card_holds : Rows.PriceOwnCardSaid :=
  Claim7.holds_tied_plain_at .later [] [.data] true (true, "5eef6373d1780e258f1a5ce1488ab08550f8847e6d58196731071cd6f4905cea") false holds (fun _ h => by cases h) (by kernel_rfl) (fun _ h => by cases h) priceOwn_row_tie rfl ⟨rfl, rfl⟩ (by kernel_rfl) rfl
    (fun f fn hf hfn => by
      obtain rfl : f = 7 := Option.some.inj ((show Tryd.prog.funcNamed "bibelot/bibelotlaw09.PriceOwn" = some 7 by kernel_rfl).symm.trans hf) |>.symm
      obtain rfl : fn = Tryd.f7 := (Option.some.inj (Tryd.func7.symm.trans hfn)).symm
      exact ⟨by kernel_rfl, fun j t ht => by
        rw [Tryd.params7] at ht
        have hm : t ∈ [22, 3] := by simpa using Array.mem_of_getElem? ht
        have hall : ([22, 3].all fun u => !Tryd.prog.wantsStandIn u) = true := by kernel_rfl
        exact (show Tryd.prog.wantsStandIn t = false by simpa using List.all_eq_true.1 hall t hm)⟩)
    (by kernel_rfl)

end Go.Proofs.YtgmlmmgpcbollaaDoor.priceOwn

