import Derived.Test.YtegihfgibonhpaaPegDT
import Derived.Test.YtegihfgibonhpaaDc
import Derived.WalkKit
import Derived.Test.YtegihfgibonhpaaPso
set_option linter.unusedVariables false
namespace Go.Proofs.Try.Dn
open Go.Dn

def pg0 : Pg := ⟨tab.look, fun _ => none, fun _ _ => none, fun _ => none⟩

theorem l24_skip {pg : Pg} {H : Heap} {sid : Nat} {c : List TV} {ag : Bool} {i : Nat} {out : TV} (hi : i < 65536) (hc : H[sid]? = some (.cells c ag)) (hv : c[i]? = some (.b false)) :
    den pg l24_1 [(11, out), (28, .ref sid 0), (29, .i .i64 i)] H = den pg l24_1 [(11, out), (28, .ref sid 0), (29, .i .i64 ((i + 1 : Nat) : Int))] H := by
  have h1 : ((i : Int) < 65536) := by omega
  have h2 : wrapR .i64 ((i : Int) + 1) = .i .i64 ((i + 1 : Nat) : Int) := by rw [gX82 (by omega)]; rfl
  rw [den_eq]
  simp [l24_1, b24_0, runC, opsRun, operRun, guardRun, evalO, mapO, Dn.get, putE, keepE, dk, binI, bound, part_one hv rfl, h1, hi, hc, h2]

theorem l24_tail {pg : Pg} {H : Heap} {sid : Nat} {c : List TV} {ag : Bool} {out : TV} (hc : H[sid]? = some (.cells c ag)) : ∀ (k i : Nat), i + k = 65536 → (∀ j, i ≤ j → j < 65536 → c[j]? = some (.b false)) →
    den pg l24_1 [(11, out), (28, .ref sid 0), (29, .i .i64 i)] H = some ⟨.exit 0, [(11, out), (28, .ref sid 0), (29, .i .i64 65536), (30, .b false)], H⟩
  | 0, i, h, _ => by
    obtain rfl : i = 65536 := by omega
    rw [den_eq]
    simp [l24_1, b24_0, runC, opsRun, operRun, guardRun, evalO, mapO, Dn.get, putE, keepE, dk, binI]
  | k + 1, i, h, hv => by
    rw [l24_skip (by omega) hc (hv i (Nat.le_refl _) (by omega))]
    exact l24_tail hc k (i + 1) (by omega) fun j a b => hv j (by omega) b

theorem l24_take0 {pg : Pg} {H : Heap} {sid : Nat} {c : List TV} {ag : Bool} {i : Nat} (hi : i < 65536) (hc : H[sid]? = some (.cells c ag)) (hv : c[i]? = some (.b true)) :
    den pg l24_1 [(11, .nilsl), (28, .ref sid 0), (29, .i .i64 i)] H = den pg l24_1 [(11, .sl (H.length + 1) 0 1 false 1 none), (28, .ref sid 0), (29, .i .i64 ((i + 1 : Nat) : Int))] (H ++ [.cells [.i .i64 i] false, .cells [.i .i64 i] false]) := by
  have h1 : ((i : Int) < 65536) := by omega
  have h2 : wrapR .i64 ((i : Int) + 1) = .i .i64 ((i + 1 : Nat) : Int) := by rw [gX82 (by omega)]; rfl
  rw [den_eq]
  simp [l24_1, b24_0, runC, opsRun, operRun, guardRun, evalO, mapO, Dn.get, putE, keepE, dk, binI, bound, part_one hv rfl, h1, hi, hc, h2, fillP, repl, TV.cells, TV.one, put2, appRun, lenOf, flatOf]

theorem l24_take1 {pg : Pg} {H : Heap} {sid id : Nat} {c : List TV} {ag : Bool} {i : Nat} {x : TV} (hx : x.one = true) (hi : i < 65536) (hc : H[sid]? = some (.cells c ag)) (hv : c[i]? = some (.b true)) (hd : H[id]? = some (.cells [x] false)) :
    den pg l24_1 [(11, .sl id 0 1 false 1 none), (28, .ref sid 0), (29, .i .i64 i)] H =
      den pg l24_1 [(11, .sl (H.length + 1) 0 1 false 2 none), (28, .ref sid 0), (29, .i .i64 ((i + 1 : Nat) : Int))] ((H ++ [AObj.cells [.i .i64 i] false]).set id .dead ++ [AObj.cells [x, .i .i64 i] false]) := by
  have h1 : ((i : Int) < 65536) := by omega
  have h2 : wrapR .i64 ((i : Int) + 1) = .i .i64 ((i + 1 : Nat) : Int) := by rw [gX82 (by omega)]; rfl
  have hlt := (List.getElem?_eq_some_iff.1 hd).1
  have hd' : (H ++ [AObj.cells [.i .i64 (i : Int)] false])[id]? = some (.cells [x] false) := by rw [List.getElem?_append_left hlt]; exact hd
  rw [den_eq]
  simp [l24_1, b24_0, runC, opsRun, operRun, guardRun, evalO, mapO, Dn.get, putE, keepE, dk, binI, bound, part_one hv rfl, h1, hi, hc, h2, fillP, repl, TV.cells, TV.one, put2, appRun, lenOf, flatOf, hd']

end Go.Proofs.Try.Dn

namespace Go.Proofs.Try.Dn
open Go.Dn

def line1 : TV := .bs true 3 [.agg [.i .i64 0, .i .i64 1, .i .i64 2]]

def pre24c : DC := match c24 with | .seq a (.seq b (.seq c (.seq d (.seq (.seq e _) _)))) => .seq a (.seq b (.seq c (.seq d e))) | _ => .bad
def post24c : DC := match c24 with | .seq _ (.seq _ (.seq _ (.seq _ (.seq _ r)))) => r | _ => .bad
theorem c24_eq (pg : Pg) (R : Rec) : runC pg R c24 = thn (thn (runC pg R pre24c) (runC pg R (.block 0 l24_1))) (runC pg R post24c) := by
  simp only [c24, pre24c, post24c, runC_seq, thn_assoc]
noncomputable def pre24 : Option Out := runC pg0 (denN pg0 200) pre24c [(0, .i .i64 3), (1, line1), (2, .i .i64 3)] []
noncomputable def out24 : Out := pre24.getD ⟨.ret, [], []⟩
noncomputable def seen24 : List TV := match out24.H[1]? with | some (AObj.cells c _) => c | _ => []

set_option maxRecDepth 100000 in
theorem pre24_some : pre24 = some out24 := by
  have h : pre24.isSome = true := by kernel_rfl
  unfold out24
  cases hp : pre24 with
  | none => rw [hp] at h; cases h
  | some o => rfl

theorem out24_ex : out24.ex = .normal := by kernel_rfl
theorem out24_env : out24.env = [(11, .nilsl), (28, .ref 1 0), (29, .i .i64 0)] := by kernel_rfl
theorem out24_seen : out24.H[1]? = some (AObj.cells seen24 true) := by kernel_rfl
theorem seen24_0 : seen24[0]? = some (.b false) := by kernel_rfl
theorem seen24_1 : seen24[1]? = some (.b false) := by kernel_rfl
theorem seen24_2 : seen24[2]? = some (.b false) := by kernel_rfl
theorem seen24_3 : seen24[3]? = some (.b true) := by kernel_rfl
theorem seen24_4 : seen24[4]? = some (.b true) := by kernel_rfl
theorem seen24_drop : seen24.drop 5 = List.replicate 65531 (.b false) := by kernel_rfl

theorem seen24_tail (j : Nat) (h : 5 ≤ j) (h' : j < 65536) : seen24[j]? = some (.b false) := by
  have := congrArg (fun l : List TV => l[j - 5]?) seen24_drop
  simp only [List.getElem?_drop, List.getElem?_replicate] at this
  rw [show 5 + (j - 5) = j by omega, if_pos (by omega)] at this
  exact this

theorem run24 : ∃ H1, bodyRun pg0 (den pg0) 24 [.i .i64 3, line1, .i .i64 3] [] = some (.tup [.sl (out24.H.length + 3) 0 1 false 2 none, .i .i64 0], H1) ∧ H1[out24.H.length + 3]? = some (.cells [.i .i64 3, .i .i64 4] false) := by
  have hl : 1 < out24.H.length := (List.getElem?_eq_some_iff.1 out24_seen).1
  have h0 := l24_skip (pg := pg0) (out := .nilsl) (i := 0) (by omega) out24_seen seen24_0
  have h1 := l24_skip (pg := pg0) (out := .nilsl) (i := 1) (by omega) out24_seen seen24_1
  have h2 := l24_skip (pg := pg0) (out := .nilsl) (i := 2) (by omega) out24_seen seen24_2
  have h3 := l24_take0 (pg := pg0) (i := 3) (by omega) out24_seen seen24_3
  have hs3 : (out24.H ++ [AObj.cells [.i .i64 ((3 : Nat) : Int)] false, AObj.cells [.i .i64 ((3 : Nat) : Int)] false])[1]? = some (.cells seen24 true) := by rw [List.getElem?_append_left hl]; exact out24_seen
  have hd3 : (out24.H ++ [AObj.cells [.i .i64 ((3 : Nat) : Int)] false, AObj.cells [.i .i64 ((3 : Nat) : Int)] false])[out24.H.length + 1]? = some (.cells [.i .i64 ((3 : Nat) : Int)] false) := by
    rw [List.getElem?_append_right (by omega)]; simp
  have h4 := l24_take1 (pg := pg0) (i := 4) (x := .i .i64 ((3 : Nat) : Int)) rfl (by omega) hs3 seen24_4 hd3
  generalize hH4 : ((out24.H ++ [AObj.cells [.i .i64 ((3 : Nat) : Int)] false, AObj.cells [.i .i64 ((3 : Nat) : Int)] false]) ++ [AObj.cells [.i .i64 ((4 : Nat) : Int)] false]).set (out24.H.length + 1) .dead ++ [AObj.cells [.i .i64 ((3 : Nat) : Int), .i .i64 ((4 : Nat) : Int)] false] = H4 at h4
  have hs4 : H4[1]? = some (.cells seen24 true) := by
    subst hH4
    rw [List.getElem?_append_left (by simp <;> omega), List.getElem?_set_ne (by omega), List.getElem?_append_left (by simp <;> omega)]
    exact hs3
  have hd4 : H4[out24.H.length + 3]? = some (.cells [.i .i64 3, .i .i64 4] false) := by
    subst hH4
    rw [List.getElem?_append_right (by simp)]
    simp
  have h5 := l24_tail (pg := pg0) (out := .sl (out24.H.length + 3) 0 1 false 2 none) hs4 65531 5 rfl seen24_tail
  have hloop : den pg0 l24_1 out24.env out24.H = some ⟨.exit 0, [(11, .sl (out24.H.length + 3) 0 1 false 2 none), (28, .ref 1 0), (29, .i .i64 65536), (30, .b false)], H4⟩ := by
    rw [out24_env, ← h5]
    refine h0.trans (h1.trans (h2.trans (h3.trans ?_)))
    simpa using h4
  refine ⟨H4, ?_, hd4⟩
  have hpre := runC_mono (denN_den 200) _ _ _ _ pre24_some
  have hblk : runC pg0 (den pg0) (.block 0 l24_1) out24.env out24.H = some ⟨.normal, [(11, .sl (out24.H.length + 3) 0 1 false 2 none), (28, .ref 1 0), (29, .i .i64 65536), (30, .b false)], H4⟩ := by
    have : runC pg0 (den pg0) l24_1 out24.env out24.H = _ := (den_eq _ _ _).symm.trans hloop
    simp [runC, this]
  have hall : runC pg0 (den pg0) c24 [(0, .i .i64 3), (1, line1), (2, .i .i64 3)] [] = some ⟨.ret, [(6, .sl (out24.H.length + 3) 0 1 false 2 none), (7, .i .i64 0)], H4⟩ := by
    rw [c24_eq, thn_some ((thn_some hpre out24_ex).trans hblk) rfl]
    simp [post24c, c24, runC, opsRun, operRun, guardRun, evalO, mapO, Dn.get, putE, keepE, dk]
  have := bodyRun_of (pg := pg0) (f := 24) (d := d24) (xs := [.i .i64 3, line1, .i .i64 3]) (by rfl) rfl hall (by simp) (vs := [.sl (out24.H.length + 3) 0 1 false 2 none, .i .i64 0]) (by simp [d24, mapO, resRun, Dn.get])
  exact this

end Go.Proofs.Try.Dn

namespace Go.Proofs.Try.Dn
open Go.Dn

theorem mixed : Try.prog.follows .mixedOrders = true := by kernel_rfl

theorem good0 : CodeOk Try.prog pg0 0 (den pg0) := den_sound mixed (Tab.fns tab_ok) (SumOk.none _ _)

def S24 : Nat → List TV → Option TV
  | 24, [.i .i64 3, .bs true 3 [.agg [.i .i64 0, .i .i64 1, .i .i64 2]], .i .i64 3] => some (.tup [.bs false 1 [.i .i64 3, .i .i64 4], .i .i64 0])
  | _, _ => none

def pg1 : Pg := ⟨tab.look, fun _ => none, S24, fun _ => none⟩

theorem sum1 : SumOk Try.prog pg1 0 := by
  refine ⟨fun f k h => (by cases h), ?_⟩
  intro f xs r h
  have h' : S24 f xs = some r := h
  unfold S24 at h'
  split at h'
  · injection h' with h'
    subst h'
    obtain ⟨H1, h1, h2⟩ := run24
    refine ⟨pg0, den pg0, rfl, good0, Tab.fns tab_ok, _, H1, h1, ?_⟩
    simp [snap, mapO, h2, elems]
  · cases h'

theorem good1 : CodeOk Try.prog pg1 0 (den pg1) := den_sound mixed (Tab.fns tab_ok) sum1

def yes : Option (TV × Heap) → Bool
  | some (.b true, _) => true
  | _ => false

theorem yes_iff {o : Option (TV × Heap)} (h : yes o = true) : ∃ H, o = some (.b true, H) := by
  unfold yes at h
  split at h
  · exact ⟨_, rfl⟩
  · cases h

theorem awake1 : yes (bodyRun pg1 (denN pg1 300) 22 [] []) = true := by kernel_rfl

def S22 : Nat → List TV → Option TV
  | 22, [] => some (.b true)
  | _, _ => none

def pg2 : Pg := ⟨tab.look, fun _ => none, S22, fun f => if f = 68 then some 3 else none⟩

theorem sum2 : SumOk Try.prog pg2 0 := by
  refine ⟨fun f k h => ?_, ?_⟩
  · have h' : (if f = 68 then some 3 else none) = some k := h
    split at h'
    · rename_i e
      subst e
      have e := Option.some.inj h'
      subst e
      exact Try.sort68
    · cases h'
  intro f xs r h
  have h' : S22 f xs = some r := h
  unfold S22 at h'
  split at h'
  · injection h' with h'
    subst h'
    obtain ⟨H, hH⟩ := yes_iff awake1
    exact ⟨pg1, den pg1, rfl, good1, Tab.fns tab_ok, _, H, Ans.of hH, by simp [snap]⟩
  · cases h'

theorem good2 : CodeOk Try.prog pg2 0 (den pg2) := den_sound mixed (Tab.fns tab_ok) sum2

end Go.Proofs.Try.Dn

