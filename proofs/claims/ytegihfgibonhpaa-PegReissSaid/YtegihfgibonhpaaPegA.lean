import Derived.Test.YtegihfgibonhpaaPegDT
import Derived.Test.YtegihfgibonhpaaDnSim
import Derived.WalkKit
set_option linter.unusedVariables false
namespace Go.Proofs.Try.Dn
open Go.Dn

def pg0 : Pg := ⟨tab.look, fun _ => none, fun _ _ => none⟩

theorem l24_skip {pg : Pg} {H : Heap} {sid : Nat} {c : List TV} {ag : Bool} {i : Nat} {out : TV} (hi : i < 65536) (hc : H[sid]? = some (.cells c ag)) (hv : c[i]? = some (.b false)) :
    den pg l24_1 [(11, out), (28, .ref sid 0), (29, .i .i64 i)] H = den pg l24_1 [(11, out), (28, .ref sid 0), (29, .i .i64 ((i + 1 : Nat) : Int))] H := by
  have h1 : ((i : Int) < 65536) := by omega
  have h2 : wrapR .i64 ((i : Int) + 1) = .i .i64 ((i + 1 : Nat) : Int) := by rw [wrapR_i64 (by omega)]; rfl
  rw [den_eq]
  simp [l24_1, b24_0, runC, opsRun, operRun, guardRun, evalO, mapO, Dn.get, putE, keepE, dk, binI, bound, part_one hv rfl, h1, hi, hc, h2]

/-- the rest of the round where nothing is there any more -/
theorem l24_tail {pg : Pg} {H : Heap} {sid : Nat} {c : List TV} {ag : Bool} {out : TV} (hc : H[sid]? = some (.cells c ag)) : ∀ (k i : Nat), i + k = 65536 → (∀ j, i ≤ j → j < 65536 → c[j]? = some (.b false)) →
    den pg l24_1 [(11, out), (28, .ref sid 0), (29, .i .i64 i)] H = some ⟨.exit 0, [(11, out), (28, .ref sid 0), (29, .i .i64 65536), (30, .b false)], H⟩
  | 0, i, h, _ => by
    obtain rfl : i = 65536 := by omega
    rw [den_eq]
    simp [l24_1, b24_0, runC, opsRun, operRun, guardRun, evalO, mapO, Dn.get, putE, keepE, dk, binI]
  | k + 1, i, h, hv => by
    rw [l24_skip (by omega) hc (hv i (Nat.le_refl _) (by omega))]
    exact l24_tail hc k (i + 1) (by omega) fun j a b => hv j (by omega) b

theorem l24_take0 {pg : Pg} {H : Heap} {sid : Nat} {c : List TV} {ag : Bool} {i : Nat} (hi : i < 65536) (hc : H[sid]? = some (.cells c ag)) (hv : c[i]? = some (.b true)) :
    den pg l24_1 [(11, .nilsl), (28, .ref sid 0), (29, .i .i64 i)] H = den pg l24_1 [(11, .sl (H.length + 1) 0 1 false 1 none), (28, .ref sid 0), (29, .i .i64 ((i + 1 : Nat) : Int))] (H ++ [.cells [.i .i64 i] false, .cells [.i .i64 i] false]) := by
  have h1 : ((i : Int) < 65536) := by omega
  have h2 : wrapR .i64 ((i : Int) + 1) = .i .i64 ((i + 1 : Nat) : Int) := by rw [wrapR_i64 (by omega)]; rfl
  rw [den_eq]
  simp [l24_1, b24_0, runC, opsRun, operRun, guardRun, evalO, mapO, Dn.get, putE, keepE, dk, binI, bound, part_one hv rfl, h1, hi, hc, h2, fillP, repl, TV.cells, TV.one, put2, appRun, lenOf, flatOf]

theorem l24_take1 {pg : Pg} {H : Heap} {sid id : Nat} {c : List TV} {ag : Bool} {i : Nat} {x : TV} (hx : x.one = true) (hi : i < 65536) (hc : H[sid]? = some (.cells c ag)) (hv : c[i]? = some (.b true)) (hd : H[id]? = some (.cells [x] false)) :
    den pg l24_1 [(11, .sl id 0 1 false 1 none), (28, .ref sid 0), (29, .i .i64 i)] H =
      den pg l24_1 [(11, .sl (H.length + 1) 0 1 false 2 none), (28, .ref sid 0), (29, .i .i64 ((i + 1 : Nat) : Int))] ((H ++ [AObj.cells [.i .i64 i] false]).set id .dead ++ [AObj.cells [x, .i .i64 i] false]) := by
  have h1 : ((i : Int) < 65536) := by omega
  have h2 : wrapR .i64 ((i : Int) + 1) = .i .i64 ((i + 1 : Nat) : Int) := by rw [wrapR_i64 (by omega)]; rfl
  have hlt := (List.getElem?_eq_some_iff.1 hd).1
  have hd' : (H ++ [AObj.cells [.i .i64 (i : Int)] false])[id]? = some (.cells [x] false) := by rw [List.getElem?_append_left hlt]; exact hd
  rw [den_eq]
  simp [l24_1, b24_0, runC, opsRun, operRun, guardRun, evalO, mapO, Dn.get, putE, keepE, dk, binI, bound, part_one hv rfl, h1, hi, hc, h2, fillP, repl, TV.cells, TV.one, put2, appRun, lenOf, flatOf, hd']

end Go.Proofs.Try.Dn
