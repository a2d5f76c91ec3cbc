/-
  What the program must do whatever the input is, evaluated; the calls known.
-/
import Derived.Test.YtgmlmmgpcbollaaDoorQb
import Derived.WalkKit
import Derived.Test.YtgmlmmgpcbollaaDoorTie
import Derived.Test.YtgmlmmgpcbollaaDoorDc
import Derived.ChangeSame
import Derived.ProofKit
import Derived.Handy
import Derived.Lay
import Derived.LaidMore
import Derived.SevenTiedAt
set_option linter.unusedVariables false

namespace Go.Proofs.Tryd.Dn
open Go.Dn

def G0 : Nat → Option TV
  | 0 => some (.agg [.i .i64 1, .i .i64 1])
  | _ => none

def pg0 : Pg := ⟨tab.look, G0, fun _ _ => none⟩

theorem mixed : Tryd.prog.follows .mixedOrders = true := by kernel_rfl

theorem good0 : CodeOk Tryd.prog pg0 1 (den pg0) := den_sound mixed (Tab.fns tab_ok) (SumOk.none _ _)

def yes : Option (TV × Heap) → Bool
  | some (.b true, _) => true
  | _ => false

theorem yes_iff {o : Option (TV × Heap)} (h : yes o = true) : ∃ H, o = some (.b true, H) := by
  unfold yes at h
  split at h
  · exact ⟨_, rfl⟩
  · cases h

theorem awake1 : yes (bodyRun pg0 (denN pg0 300) 24 [] []) = true := by kernel_rfl

/-- awake's answer, known -/
def S24 : Nat → List TV → Option TV
  | 24, [] => some (.b true)
  | _, _ => none

def pg2 : Pg := ⟨tab.look, G0, S24⟩

theorem sum2 : SumOk Tryd.prog pg2 1 := by
  intro f xs r h
  have h' : S24 f xs = some r := h
  unfold S24 at h'
  split at h'
  · injection h' with h'
    subst h'
    obtain ⟨H, hH⟩ := yes_iff awake1
    exact ⟨pg0, den pg0, rfl, good0, Tab.fns tab_ok, _, H, Ans.of hH, by simp [snap]⟩
  · cases h'

theorem good2 : CodeOk Tryd.prog pg2 1 (den pg2) := den_sound mixed (Tab.fns tab_ok) sum2

theorem free2 : Free pg2 where
  F := rfl
  G := rfl
  S f xs h := by
    show S24 f xs = none
    unfold S24
    split
    · exact absurd rfl h
    · rfl

end Go.Proofs.Tryd.Dn

/-
  The arguments of the statements about observations, by value; the variable that is laid.
-/

namespace Go.Proofs.Tryd.Dn
open Go.Dn Go.ChangeShapes Go.WideShapes Go.ChangeAt Go.RowKit

theorem cells3 : Tryd.prog.cellsOf 3 = 1 := by kernel_rfl
theorem cells29 : Tryd.prog.cellsOf 29 = 1 := by kernel_rfl
theorem cells65 : Tryd.prog.cellsOf 65 = 2 := by kernel_rfl
theorem cells93 : Tryd.prog.cellsOf 93 = 2 := by kernel_rfl
theorem laid : laidOutB Tryd.prog = true := by kernel_rfl

section
variable {H : Type} {enc : TypeId × Value → H} {w : World} {sp : Nat → Bool} {held : Bool}

theorem reads3 : Reads enc Tryd.prog w sp held 3 fun ts => ∃ n, ts = [.i .i64 n] := by
  intro fuel cs x h
  obtain ⟨ts, h1, n, h2, _⟩ := reads_int Tryd.underlying3 fuel cs x h
  exact ⟨ts, h1, n, h2⟩

theorem ints_of : ∀ {l : List (List TV)}, (∀ x, x ∈ l → ∃ n, x = [.i .i64 n]) → ∃ m : List Int, l.map (fun ts => ts.headD .undef) = m.map elI.val ∧ m.length = l.length
  | [], _ => ⟨[], rfl, rfl⟩
  | a :: l, h => by
    obtain ⟨n, rfl⟩ := h a (by simp)
    obtain ⟨m, h1, h2⟩ := ints_of (l := l) fun x hx => h x (List.mem_cons_of_mem _ hx)
    exact ⟨n :: m, by simp only [List.map_cons, h1]; rfl, by simp [h2]⟩

theorem reads29 : Reads enc Tryd.prog w sp held 29 fun ts => ∃ t l, ts = [t] ∧ SV t l ∧ l.length ≤ maxLen := by
  intro fuel cs x h
  obtain ⟨ts, h1, h2⟩ := reads_slice (mk := fun ts => ts.headD .undef) Tryd.underlying29 (by rw [cells3]; decide) reads3 (fun ts ⟨n, hn⟩ => by subst hn; rfl) fuel cs x h
  rcases h2 with rfl | ⟨l, rfl, hl, h3⟩
  · exact ⟨_, h1, .nilsl, [], rfl, .inl ⟨rfl, rfl⟩, by simp⟩
  · obtain ⟨m, k1, k2⟩ := ints_of fun x hx => by obtain ⟨n, hn⟩ := (h3 x hx).1; exact ⟨n, hn⟩
    exact ⟨_, h1, _, m, rfl, .inr ⟨false, by rw [← k1, cells3]⟩, by omega⟩

theorem allQ2 {Q1 Q2 : List TV → Prop} : ∀ {ls : List (List TV)}, AllQ [Q1, Q2] ls → ∃ a b, ls = [a, b] ∧ Q1 a ∧ Q2 b
  | [], h => by cases h
  | [a], h => by cases h.2
  | [a, b], h => ⟨a, b, rfl, h.1, h.2.1⟩
  | _ :: _ :: _ :: _, h => by cases h.2.2

theorem reads65 : Reads enc Tryd.prog w sp held 65 fun ts => ∃ (a b : TV) (x : Obs), ts = [a, b] ∧ SV a x.1 ∧ SV b x.2 := by
  intro fuel cs x h
  obtain ⟨ts, h1, ls, h2, rfl⟩ := reads_struct (Qs := [_, _]) Tryd.underlying65 (by rw [cells65]; simp [Tile, cells29]) ⟨reads29, reads29, trivial⟩ fuel cs x h
  obtain ⟨a, b, rfl, ⟨t, l, rfl, hl, _⟩, ⟨u, m, rfl, hm, _⟩⟩ := allQ2 h2
  exact ⟨_, h1, t, u, (l, m), rfl, hl, hm⟩

theorem pairs_of : ∀ {l : List (List TV)}, (∀ x, x ∈ l → ∃ (a b : TV) (y : Obs), x = [a, b] ∧ SV a y.1 ∧ SV b y.2) → ∃ m : List Obs, m.length = l.length ∧ ∀ (i : Nat) e x, (l.map TV.agg)[i]? = some e → m[i]? = some x → PV e x
  | [], _ => ⟨[], rfl, fun i e x h => by simp at h⟩
  | a :: l, h => by
    obtain ⟨t, u, y, rfl, h1, h2⟩ := h a (by simp)
    obtain ⟨m, h3, h4⟩ := pairs_of (l := l) fun x hx => h x (List.mem_cons_of_mem _ hx)
    refine ⟨y :: m, by simp [h3], fun i e x he hx => ?_⟩
    cases i with
    | zero =>
      simp at he hx
      subst he hx
      exact ⟨t, u, rfl, h1, h2⟩
    | succ i => exact h4 i e x (by simpa using he) (by simpa using hx)

theorem reads22 : Reads enc Tryd.prog w sp held 22 fun ts => ∃ t l, ts = [t] ∧ Rws t l ∧ l.length ≤ maxLen := by
  intro fuel cs x h
  obtain ⟨ts, h1, h2⟩ := reads_slice (mk := TV.agg) Tryd.underlying22 (by rw [cells65]; decide) reads65 (fun ts _ => rfl) fuel cs x h
  rcases h2 with rfl | ⟨l, rfl, hl, h3⟩
  · exact ⟨_, h1, .nilsl, [], rfl, .inl ⟨rfl, rfl⟩, by simp⟩
  · obtain ⟨m, k1, k2⟩ := pairs_of fun x hx => (h3 x hx).1
    exact ⟨_, h1, _, m, rfl, .inr ⟨false, _, by rw [cells65], by simp [k1], k2⟩, by omega⟩
end

open Go.Proofs.YtgmlmmgpcbollaaDoor in
/-- the listed variable's cells -/
theorem whole_cells {W : World} (h : laidMetH Tryd.prog [("bibelot/price.whole", Rows.laid_bibelot_price_whole)] W) :
    MemAt W 0 0 [.int .i64 1, .int .i64 1] := by
  rw [MakeChecks.laidMetH_plain _ _ _ (by kernel_rfl)] at h
  obtain ⟨ps, ⟨g, t, cs, fuel, p, q, hg, ht, hv, hd, _, _⟩, _, _⟩ := h
  obtain rfl := Option.some.inj ((show Tryd.prog.globalNamed "bibelot/price.whole" = some 0 by kernel_rfl).symm.trans hg)
  obtain rfl := Option.some.inj ((show (Tryd.prog.globals[0]?).map (·.type) = some 93 by kernel_rfl).symm.trans ht)
  obtain ⟨y0, y1, n, ex, hl, h0, h1⟩ := trod_struct2 Tryd.underlying93 hd
  have hx := (Prod.mk.inj ex).1
  obtain ⟨z0, a1, a2, _⟩ := DataW.trod_int Tryd.underlying3 h0
  obtain ⟨z1, b1, b2, _⟩ := DataW.trod_int Tryd.underlying3 h1
  rw [cells3] at a1 b1
  rw [cells93] at hl
  have hy := DataW.agg.inj hx
  simp only [List.cons.injEq, and_true] at hy
  rw [a2, b2] at hy
  obtain ⟨q1, q2⟩ := hy
  have e0 : z0 = 1 := by simpa using q1.symm
  have e1 : z1 = 1 := by simpa using q2.symm
  subst e0 e1
  intro j u hu
  rw [World.var?_cell hg hv (0 + j)]
  have hcs : cs.toList = [.int .i64 1, .int .i64 1] := by
    match hcs : cs.toList, hl with
    | [u, v], _ =>
      rw [hcs] at a1 b1
      simp at a1 b1
      rw [a1, b1]
  have : cs[0 + j]? = cs.toList[j]? := by simp
  rw [this, hcs]
  exact hu

open Go.Proofs.YtgmlmmgpcbollaaDoor in
/-- the variables as the program's evaluation takes them -/
theorem grel {W : World} (h : laidMetH Tryd.prog [("bibelot/price.whole", Rows.laid_bibelot_price_whole)] W) : GRel pg2 1 W := by
  intro n tv hn
  have hn' : G0 n = some tv := hn
  unfold G0 at hn'
  split at hn'
  · injection hn' with hn'
    subst hn'
    exact ⟨by decide, [.int .i64 1, .int .i64 1], rfl, whole_cells h⟩
  · cases hn'

end Go.Proofs.Tryd.Dn

/-
  The arguments of the statement about values, by value.
-/

namespace Go.Proofs.Tryd.Dn
open Go.Dn Go.ChangeShapes Go.WideShapes Go.ChangeAt Go.RowKit

section
variable {H : Type} {enc : TypeId × Value → H} {w : World} {sp : Nat → Bool} {held : Bool}

end

end Go.Proofs.Tryd.Dn

