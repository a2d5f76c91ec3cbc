/-
  Two dice compared, in the program and in the reference.
-/
import Derived.Test.YtijeefncmgjlpaaEa
set_option linter.unusedSimpArgs false
set_option linter.unusedVariables false

namespace Go.Proofs.Try.Dn
open Go.Dn

def cGt (x : Int) (b : List Int) : Nat := b.countP fun y => decide (y < x)
def cLt (x : Int) (b : List Int) : Nat := b.countP fun y => decide (x < y)
def cEq (x : Int) (b : List Int) : Nat := b.countP fun y => decide (x = y)
def more (a b : List Int) : Nat := (a.map fun x => cGt x b).sum
def less (a b : List Int) : Nat := (a.map fun x => cLt x b).sum
def same (a b : List Int) : Nat := (a.map fun x => cEq x b).sum

/-! the reference -/
end Go.Proofs.Try.Dn

/-
  Two dice compared by the program; which die beats which.
-/

namespace Go.Proofs.Try.Dn
open Go.Dn

def hC (m l s : Nat) : Heap := [.cells [.i .i64 0, .i .i64 0, .i .i64 0] true, .cells [.i .i64 (m : Int), .i .i64 (l : Int), .i .i64 (s : Int)] true]

end Go.Proofs.Try.Dn

/-
  Which die beats which.
-/

namespace Go.Proofs.Try.Dn
open Go.Dn

def bt (a b : List Int) : Bool := decide (less a b < more a b)

end Go.Proofs.Try.Dn

/-
  The table of which die beats which.
-/

namespace Go.Proofs.Try.Dn
open Go.Dn

theorem body_ofs {pg : Pg} {f : Nat} {xs : List TV} {d : DFun} {x : Ex} {e : Env} {H H' : Heap} {vs : List TV} (hd : pg.F f = some d) (hl : xs.length = d.np)
    (ho : go pg (den pg) [.c d.body] .normal (zipE xs 0) H = some ⟨x, e, H'⟩) (hx : x = .ret ∨ x = .normal) (hv : mapO (resRun e H') d.res = some vs) : bodyRun pg (den pg) f xs H = some (tupR vs, H') := by
  refine bodyRun_of (vs := vs) (o := ⟨x, e, H'⟩) hd hl (by rw [runC_go]; exact ho) ?_ hv
  intro id
  rcases hx with rfl | rfl <;> simp

theorem snapSSV {T : TV} {l : List (List Int)} (hT : SSV T l) (H : Heap) : ∃ T', snapArgs H [] [T] = some [T'] ∧ SSV T' l := by
  obtain ⟨t', h1, h2⟩ := hT.snap H 6
  exact ⟨t', by simp [snapArgs, h1], h2⟩

theorem call55 {pg : Pg} (hF : Free pg) {T : TV} {ls : List (List Int)} (hT : SSV T ls) (hl : ls.length ≤ 1000000) (hL : ∀ x ∈ ls, x.length ≤ 1000000) (H : Heap) : callRun pg (den pg) (.pu []) [.fn 55 [] [], T] H = some (.i .i64 (chkD ls), H) := by
  obtain ⟨T', s1, s2⟩ := snapSSV hT H
  exact PFn.call (fn55 hF s2 hl hL) (args := [T]) (ks := []) (fs := []) (cs := []) (by simpa using s1)

end Go.Proofs.Try.Dn

/-
  Compare: two lists, dice or not.
-/

namespace Go.Proofs.Try.Dn
open Go.Dn

theorem SV.cells' {A : TV} {a : List Int} (h : SV A a) : A.cells = [A] := by
  rcases h with ⟨rfl, _⟩ | ⟨b, rfl⟩ <;> rfl

theorem two {pg : Pg} {A B : TV} {a b : List Int} (hA : SV A a) (hB : SV B b) (H : Heap) : dkc pg (den pg) (.bsl false [.nilsl] false 2 [0, 1]) [A, B] H = some (.sl H.length 0 1 false 2 (some 2), H ++ [.cells [A, B] false]) ∧
    ∃ T, snap .borrow (H ++ [.cells [A, B] false]) 9 (.sl H.length 0 1 false 2 (some 2)) = some T ∧ SSV T [a, b] := by
  refine ⟨by simp [dkc, dk, fillP, repl, put2, hA.one, hB.one, SV.cells' hA, SV.cells' hB], ?_⟩
  obtain ⟨A', s1, hA'⟩ := hA.snap (H ++ [.cells [A, B] false]) 6
  obtain ⟨B', s2, hB'⟩ := hB.snap (H ++ [.cells [A, B] false]) 6
  refine ⟨.bs true 1 [A', B'], ?_, .inr ⟨true, _, rfl, rfl, fun i e x he hx => ?_⟩⟩
  · rw [snS_sl _ (by decide), getLast, gXm2, if_pos ⟨by simp, .inr rfl⟩]
    show (mapO (Dn.snap .borrow _ 8) [A, B]).map _ = _
    rw [mapO, s1, Option.bind_some, mapO, s2, Option.bind_some, mapO]
    rfl
  · match i with
    | 0 => simp at he hx; subst he hx; exact hA'
    | 1 => simp at he hx; subst he hx; exact hB'
    | i + 2 => simp at he

end Go.Proofs.Try.Dn

