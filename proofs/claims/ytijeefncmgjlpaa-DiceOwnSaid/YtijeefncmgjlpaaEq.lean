/-
  The arguments of the statements about dice, by value.
-/
import Derived.Test.YtijeefncmgjlpaaRows
import Derived.Test.YtijeefncmgjlpaaEo
import Derived.Test.YtijeefncmgjlpaaEp
import Derived.Test.YtijeefncmgjlpaaDc
import Derived.WalkKit
set_option linter.unusedVariables false

namespace Go.Proofs.Try.Dn
open Go.Dn Go.ChangeShapes Go.WideShapes Go.ChangeAt Go.RowKit

theorem mixed : Try.prog.follows .mixedOrders = true := by kernel_rfl
theorem cells3 : Try.prog.cellsOf 3 = 1 := by kernel_rfl
theorem cells22 : Try.prog.cellsOf 22 = 1 := by kernel_rfl
theorem laid : laidOutB Try.prog = true := by kernel_rfl

theorem sum0 : SumOk Try.prog pg0 0 := by
 refine ⟨fun f k h => ?_, fun f ags r h => by cases h⟩
 have h : (if f = 81 \/ f = 96 then some 2 else none) = some k := h
 split at h
 ·rename_i hf
  obtain rfl := Option.some.inj h
  rcases hf with rfl | rfl
  ·exact Try.sort81
  ·exact Try.sort96
 ·cases h

theorem good0 : CodeOk Try.prog pg0 0 (den pg0) := den_sound mixed (Tab.fns tab_ok) sum0

section
variable {H : Type} {enc : TypeId × Value -> H} {w : World} {sp : Nat -> Bool} {held : Bool}

theorem reads3 : Reads enc Try.prog w sp held 3 fun ts => ∃ n, ts = [.i .i64 n] /\ okI .i64 n := reads_int Try.underlying3
theorem ints_of : ∀ {l : List (List TV)}, (∀ x, x ∈ l -> ∃ n, x = [.i .i64 n]) -> ∃ m : List Int, l.map (fun ts => ts.headD .undef) = m.map elI.val /\ m.length = l.length
 | [], _ => ⟨[], rfl, rfl⟩
 | a :: l, h => by
  obtain ⟨n, rfl⟩ := h a (by simp)
  obtain ⟨m, h1, h2⟩ := ints_of (l := l) fun x hx => h x (List.mem_cons_of_mem _ hx)
  exact ⟨n :: m, by simp only [List.map_cons, h1]; rfl, by simp [h2]⟩

theorem reads22 : Reads enc Try.prog w sp held 22 fun ts => ∃ t l, ts = [t] /\ SV t l /\ l.length <= maxLen := by
 intro fuel cs x h
 obtain ⟨ts, h1, h2⟩ := reads_slice (mk := fun ts => ts.headD .undef) Try.underlying22 (by rw [cells3]; decide) reads3 (fun ts ⟨n, hn, _⟩ => by subst hn; rfl) fuel cs x h
 rcases h2 with rfl | ⟨l, rfl, hl, h3⟩
 ·exact ⟨_, h1, .nilsl, [], rfl, .inl ⟨rfl, rfl⟩, by simp⟩
 ·obtain ⟨m, k1, k2⟩ := ints_of fun x hx => by obtain ⟨n, hn, _⟩ := (h3 x hx).1; exact ⟨n, hn⟩
  exact ⟨_, h1, _, m, rfl, .inr ⟨false, by rw [<- k1, cells3]⟩, by omega⟩

theorem rows_of : ∀ {l : List (List TV)}, (∀ x, x ∈ l -> ∃ t r, x = [t] /\ SV t r /\ r.length <= maxLen) -> ∃ m : List (List Int), m.length = l.length /\ (∀ x ∈ m, x.length <= maxLen) /\ ∀ (i : Nat) e x, (l.map fun ts => ts.headD .undef)[i]? = some e -> m[i]? = some x -> SV e x
 | [], _ => ⟨[], rfl, (fun x hx => by cases hx), fun i e x h => by simp at h⟩
 | a :: l, h => by
  obtain ⟨t, r, rfl, h1, h2⟩ := h a (by simp)
  obtain ⟨m, h3, h4, h5⟩ := rows_of (l := l) fun x hx => h x (List.mem_cons_of_mem _ hx)
  refine ⟨r :: m, by simp [h3], fun x hx => ?_, fun i e x he hx => ?_⟩
  ·rcases List.mem_cons.1 hx with rfl | hx
   ·exact h2
   ·exact h4 x hx
  ·cases i with
   | zero =>
    simp at he hx
    subst he hx
    exact h1
   | succ i => exact h5 i e x (by simpa using he) (by simpa using hx)

theorem reads39 : Reads enc Try.prog w sp held 39 fun ts => ∃ t l, ts = [t] /\ SSV t l /\ l.length <= maxLen /\ ∀ x ∈ l, x.length <= maxLen := by
 intro fuel cs x h
 obtain ⟨ts, h1, h2⟩ := reads_slice (mk := fun ts => ts.headD .undef) Try.underlying39 (by rw [cells22]; decide) reads22 (fun ts ⟨t, l, hn, hs, _⟩ => by subst hn; exact SV.cells' hs) fuel cs x h
 rcases h2 with rfl | ⟨l, rfl, hl, h3⟩
 ·exact ⟨_, h1, .nilsl, [], rfl, .inl ⟨rfl, rfl⟩, by simp, (fun x hx => by cases hx)⟩
 ·obtain ⟨m, k1, k2, k3⟩ := rows_of fun x hx => (h3 x hx).1
  exact ⟨_, h1, _, m, rfl, .inr ⟨false, _, by rw [cells22], by simp [k1], k3⟩, by omega, k2⟩
end

theorem sizes {n : Nat} (h : n <= maxLen) : n <= 9223372036854775807 := by unfold maxLen at h; omega
end Go.Proofs.Try.Dn

