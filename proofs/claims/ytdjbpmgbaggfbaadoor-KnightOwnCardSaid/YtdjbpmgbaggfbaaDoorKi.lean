/-
  The arguments of the statements about boards, by value; the variable that is laid.
-/
import Derived.Test.YtdjbpmgbaggfbaaDoorTie
import Derived.Test.YtdjbpmgbaggfbaaDoorKg
import Derived.Test.YtdjbpmgbaggfbaaDoorDc
import Derived.ChangeSame
import Derived.OpenShut
import Derived.WalkKit
import Derived.ProofKit
import Derived.Handy
import Derived.Lay
import Derived.LaidMore
import Derived.SevenTiedAt
import Derived.Test.YtdjbpmgbaggfbaaDoorDd
set_option linter.unusedVariables false

namespace Go.Proofs.Tryd.Dn
open Go.Dn Go.ChangeShapes Go.WideShapes Go.ChangeAt Go.RowKit

theorem cells3 : Tryd.prog.cellsOf 3 = 1 := by kernel_rfl
theorem cells5 : Tryd.prog.cellsOf 5 = 1 := by kernel_rfl
theorem cells122 : Tryd.prog.cellsOf 122 = 64 := by kernel_rfl
theorem laid : laidOutB Tryd.prog = true := by kernel_rfl

section
variable {H : Type} {enc : TypeId × Value → H} {w : World} {sp : Nat → Bool} {held : Bool}

theorem reads3 : Reads enc Tryd.prog w sp held 3 fun ts => ∃ n, ts = [.i .i64 n] := by
  intro fuel cs x h
  obtain ⟨ts, h1, n, h2, _⟩ := reads_int Tryd.underlying3 fuel cs x h
  exact ⟨ts, h1, n, h2⟩

end

theorem deB_len : deB.length = 64 := by kernel_rfl

set_option maxRecDepth 100000 in
open Go.Proofs.YtdjbpmgbaggfbaaDoor in
theorem laid_is {H : Type} : (Rows.laid_math_bits_deBruijn64tab : DataW H) = .agg (deB.map fun n => .lit (.int .u8 n)) := rfl

set_option maxRecDepth 100000 in
open Go.Proofs.YtdjbpmgbaggfbaaDoor in
theorem whole_cells {W : World} (h : laidMetH Tryd.prog [("math/bits.deBruijn64tab", Rows.laid_math_bits_deBruijn64tab)] W) :
    MemAt W 0 0 (deB.map fun n => .int .u8 n) := by
  rw [MakeChecks.laidMetH_plain _ _ _ (by kernel_rfl)] at h
  obtain ⟨ps, ⟨g, t, cs, fuel, p, q, hg, ht, hv, hd, _, _⟩, _, _⟩ := h
  obtain rfl := Option.some.inj ((show Tryd.prog.globalNamed "math/bits.deBruijn64tab" = some 0 by kernel_rfl).symm.trans hg)
  obtain rfl := Option.some.inj ((show (Tryd.prog.globals[0]?).map (·.type) = some 122 by kernel_rfl).symm.trans ht)
  obtain ⟨xs, m, rfl, ex, hl, hn, hcell⟩ := DataW.trod_array Tryd.underlying122 hd
  rw [cells122] at hl
  simp only [cells5, Nat.mul_one] at hcell
  have hx := (Prod.mk.inj ex).1
  rw [laid_is] at hx
  have hx := DataW.agg.inj hx
  have hcs : cs.toList = deB.map fun n => Value.int .u8 n := by
    apply List.ext_getElem?
    intro i
    by_cases hi : i < 64
    · have hc := hcell i hi
      have hxi : xs[i]? = some (xs[i]'(by omega)) := List.getElem?_eq_getElem (by omega)
      rw [hxi] at hc
      obtain ⟨z, z1, z2, _⟩ := DataW.trod_int Tryd.underlying5 hc
      have hm : (xs.map (·.1))[i]? = some (.lit (.int .u8 z)) := by rw [List.getElem?_map, hxi, z2]; rfl
      rw [← hx, List.getElem?_map] at hm
      have hz : (cs.toList.drop i)[0]? = some (.int .u8 z) := by
        have : ((cs.toList.drop i).take 1)[0]? = some (.int .u8 z) := by rw [z1]; rfl
        rwa [List.getElem?_take_of_lt (by omega)] at this
      rw [List.getElem?_drop, Nat.add_zero] at hz
      rw [hz, List.getElem?_map]
      cases hb : deB[i]? with
      | none => rw [hb] at hm; cases hm
      | some y =>
        rw [hb] at hm
        have hy := Option.some.inj hm
        injection hy with hy
        injection hy with _ hy
        rw [hy]; rfl
    · rw [List.getElem?_eq_none (by omega), List.getElem?_eq_none (by rw [List.length_map, deB_len]; omega)]
  intro j u hu
  rw [World.var?_cell hg hv (0 + j)]
  have : cs[0 + j]? = cs.toList[j]? := by simp
  rw [this, hcs]
  exact hu

set_option maxRecDepth 100000 in
open Go.Proofs.YtdjbpmgbaggfbaaDoor in
theorem grel {W : World} (h : laidMetH Tryd.prog [("math/bits.deBruijn64tab", Rows.laid_math_bits_deBruijn64tab)] W) : GRel pg0 1 W := by
  intro n tv hn
  have hn' : G0 n = some tv := hn
  unfold G0 at hn'
  split at hn'
  · injection hn' with hn'
    subst hn'
    exact ⟨by decide, _, rfl, whole_cells h⟩
  · cases hn'

theorem free0 : Free pg0 where
  F := rfl
  G := rfl
  S f xs h := rfl

end Go.Proofs.Tryd.Dn

/-
  The arguments that are lists of squares, or rides, by value.
-/

namespace Go.Proofs.Tryd.Dn
open Go.Dn Go.ChangeShapes Go.WideShapes Go.ChangeAt Go.RowKit

section
variable {H : Type} {enc : TypeId × Value → H} {w : World} {sp : Nat → Bool} {held : Bool}

theorem ints_of : ∀ {l : List (List TV)}, (∀ x, x ∈ l → ∃ n, x = [.i .i64 n]) → ∃ m : List Int, l.map (fun ts => ts.headD .undef) = m.map elI.val ∧ m.length = l.length
  | [], _ => ⟨[], rfl, rfl⟩
  | a :: l, h => by
    obtain ⟨n, rfl⟩ := h a (by simp)
    obtain ⟨m, h1, h2⟩ := ints_of (l := l) fun x hx => h x (List.mem_cons_of_mem _ hx)
    exact ⟨n :: m, by simp only [List.map_cons, h1]; rfl, by simp [h2]⟩

theorem reads24 : Reads enc Tryd.prog w sp held 24 fun ts => ∃ t l, ts = [t] ∧ SV t l ∧ l.length ≤ maxLen := by
  intro fuel cs x h
  obtain ⟨ts, h1, h2⟩ := reads_slice (mk := fun ts => ts.headD .undef) Tryd.underlying24 (by rw [cells3]; decide) reads3 (fun ts ⟨n, hn⟩ => by subst hn; rfl) fuel cs x h
  rcases h2 with rfl | ⟨l, rfl, hl, h3⟩
  · exact ⟨_, h1, .nilsl, [], rfl, .inl ⟨rfl, rfl⟩, by simp⟩
  · obtain ⟨m, k1, k2⟩ := ints_of fun x hx => by obtain ⟨n, hn⟩ := (h3 x hx).1; exact ⟨n, hn⟩
    exact ⟨_, h1, _, m, rfl, .inr ⟨false, by rw [← k1, cells3]⟩, by omega⟩

end

end Go.Proofs.Tryd.Dn

