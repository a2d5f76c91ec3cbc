/-
  The arguments of the statements about boards, by value.
-/
import Derived.Test.YtegihfgibonhpaaRows
import Derived.Test.YtegihfgibonhpaaPa
import Derived.Test.YtegihfgibonhpaaDc
import Derived.Test.YtegihfgibonhpaaDd
set_option linter.unusedSimpArgs false
set_option linter.unusedVariables false

namespace Go.Proofs.Try.Dn
open Go.Dn Go.ChangeShapes Go.WideShapes Go.ChangeAt Go.RowKit

theorem cells3 : Try.prog.cellsOf 3 = 1 := by kernel_rfl
theorem cells49 : Try.prog.cellsOf 49 = 3 := by kernel_rfl
theorem laid : laidOutB Try.prog = true := by kernel_rfl

abbrev Line := Int × Int × Int
def In64 (n : Int) : Prop := -9223372036854775808 ≤ n ∧ n ≤ 9223372036854775807
def lineTV (x : Line) : TV := .agg [.i .i64 x.1, .i .i64 x.2.1, .i .i64 x.2.2]
def LineOk (x : Line) : Prop := In64 x.1 ∧ In64 x.2.1 ∧ In64 x.2.2
def linesTV (l : List Line) : TV := .bs false 3 (l.map lineTV)

theorem in64 {n : Int} (h : okI .i64 n) : In64 n := by simpa [okI, In64, Lit.wf, IntKind.min, IntKind.max, IntKind.signed, IntKind.bits] using h

section
variable {H : Type} {enc : TypeId × Value → H} {w : World} {sp : Nat → Bool} {held : Bool}

theorem reads3 : Reads enc Try.prog w sp held 3 fun ts => ∃ n, ts = [.i .i64 n] ∧ okI .i64 n := reads_int Try.underlying3

theorem reads49 : Reads enc Try.prog w sp held 49 fun ts => ∃ x : Line, ts = [.i .i64 x.1, .i .i64 x.2.1, .i .i64 x.2.2] ∧ LineOk x := by
  intro fuel cs x h
  obtain ⟨ts, h1, l, h2, rfl, h3⟩ := reads_arr Try.underlying49 (by rw [cells49, cells3]) reads3 fuel cs x h
  match l, h2 with
  | [a, b, c], _ =>
    obtain ⟨x1, rfl, o1⟩ := h3 a (by simp)
    obtain ⟨x2, rfl, o2⟩ := h3 b (by simp)
    obtain ⟨x3, rfl, o3⟩ := h3 c (by simp)
    exact ⟨_, h1, (x1, x2, x3), rfl, in64 o1, in64 o2, in64 o3⟩

theorem lines_of : ∀ {l : List (List TV)}, (∀ x, x ∈ l → ∃ y : Line, x = [.i .i64 y.1, .i .i64 y.2.1, .i .i64 y.2.2] ∧ LineOk y) → ∃ m : List Line, l.map TV.agg = m.map lineTV ∧ m.length = l.length ∧ ∀ y, y ∈ m → LineOk y
  | [], _ => ⟨[], rfl, rfl, fun y hy => by cases hy⟩
  | a :: l, h => by
    obtain ⟨y, rfl, hy⟩ := h a (by simp)
    obtain ⟨m, h1, h2, h3⟩ := lines_of (l := l) fun x hx => h x (List.mem_cons_of_mem _ hx)
    refine ⟨y :: m, by simp [h1, lineTV], by simp [h2], fun z hz => ?_⟩
    rcases List.mem_cons.1 hz with rfl | hz
    · exact hy
    · exact h3 z hz

def IsLines (t : TV) (l : List Line) : Prop := (t = .nilsl ∧ l = [] ∨ t = linesTV l) ∧ l.length ≤ maxLen ∧ ∀ y, y ∈ l → LineOk y

theorem reads22 : Reads enc Try.prog w sp held 22 fun ts => ∃ t l, ts = [t] ∧ IsLines t l := by
  intro fuel cs x h
  obtain ⟨ts, h1, h2⟩ := reads_slice (mk := TV.agg) Try.underlying22 (by rw [cells49]; decide) reads49 (fun ts _ => rfl) fuel cs x h
  rcases h2 with rfl | ⟨l, rfl, hl, h3⟩
  · exact ⟨_, h1, .nilsl, [], rfl, .inl ⟨rfl, rfl⟩, by simp, fun y hy => by cases hy⟩
  · obtain ⟨m, k1, k2, k3⟩ := lines_of fun x hx => (h3 x hx).1
    exact ⟨_, h1, _, m, rfl, .inr (by rw [linesTV, ← k1, cells49]), by omega, k3⟩
end

end Go.Proofs.Try.Dn

/-
  What a board is: plain Lean.
-/

namespace Go.Proofs.Try.Dn

def lineBad (n : Int) (x : Line) : Bool := decide (x.1 < 0) || decide (x.2.2 ≤ x.1) || decide (n ≤ x.2.2) || decide (x.2.1 < 0) || decide (n ≤ x.2.1) || decide (x.2.1 = x.1) || decide (x.2.1 = x.2.2)
def lt3 (a b : Line) : Bool := decide (a.1 < b.1) || (decide (a.1 = b.1) && (decide (a.2.1 < b.2.1) || (decide (a.2.1 = b.2.1) && decide (a.2.2 < b.2.2))))
def chkFrom (n : Int) : Option Line → List Line → Int
  | _, [] => 0
  | p, x :: l => if lineBad n x || (match p with | none => false | some q => !lt3 q x) then 20 else chkFrom n (some x) l
def chk (n : Int) (l : List Line) : Int := if n < 1 ∨ 16 < n then 1 else if 40 < l.length then 2 else chkFrom n none l

end Go.Proofs.Try.Dn

namespace Go.Proofs.Try.Dn
open Go.Dn

theorem l46_step {pg : Pg} {H : Heap} {id : Nat} {n v : Int} {i t : TV} {k : Nat} {cs : List TV} (hk : k < 3) (hc : H[id]? = some (.cells cs true)) (hv : cs[k]? = some (.i .i64 v)) (h0 : 0 ≤ v) (h1 : v < n) :
    den pg l46_1 [(0, .i .i64 n), (1, t), (5, i), (6, .ref id 0), (7, .i .i64 k)] H = den pg l46_1 [(0, .i .i64 n), (1, t), (5, i), (6, .ref id 0), (7, .i .i64 ((k + 1 : Nat) : Int))] H := by
  have e1 : ((k : Int) < 3) := by omega
  have e2 : wrapR .i64 ((k : Int) + 1) = .i .i64 ((k + 1 : Nat) : Int) := by rw [gX82 (by omega)]; rfl
  have e3 : ¬ v < 0 := by omega
  have e4 : ¬ n ≤ v := by omega
  rw [den_eq]
  simp [l46_1, b46_0, runC, opsRun, operRun, guardRun, evalO, mapO, Dn.get, putE, keepE, dk, binI, bound, part_one hv rfl, e1, e2, e3, e4, hk, hc]

theorem l46_low {pg : Pg} {H : Heap} {id : Nat} {n v : Int} {i t : TV} {k : Nat} {cs : List TV} (hk : k < 3) (hc : H[id]? = some (.cells cs true)) (hv : cs[k]? = some (.i .i64 v)) (h0 : v < 0) :
    den pg l46_1 [(0, .i .i64 n), (1, t), (5, i), (6, .ref id 0), (7, .i .i64 k)] H = some ⟨.ret, [(4, .i .i64 20)], H⟩ := by
  have e1 : ((k : Int) < 3) := by omega
  rw [den_eq]
  simp [l46_1, b46_0, runC, opsRun, operRun, guardRun, evalO, mapO, Dn.get, putE, keepE, dk, binI, bound, part_one hv rfl, e1, h0, hk, hc]

theorem l46_high {pg : Pg} {H : Heap} {id : Nat} {n v : Int} {i t : TV} {k : Nat} {cs : List TV} (hk : k < 3) (hc : H[id]? = some (.cells cs true)) (hv : cs[k]? = some (.i .i64 v)) (h0 : 0 ≤ v) (h1 : n ≤ v) :
    den pg l46_1 [(0, .i .i64 n), (1, t), (5, i), (6, .ref id 0), (7, .i .i64 k)] H = some ⟨.ret, [(4, .i .i64 20)], H⟩ := by
  have e1 : ((k : Int) < 3) := by omega
  have e3 : ¬ v < 0 := by omega
  rw [den_eq]
  simp [l46_1, b46_0, runC, opsRun, operRun, guardRun, evalO, mapO, Dn.get, putE, keepE, dk, binI, bound, part_one hv rfl, e1, e3, h1, hk, hc]

theorem l46_end {pg : Pg} {H : Heap} {id : Nat} {n : Int} {i t : TV} :
    den pg l46_1 [(0, .i .i64 n), (1, t), (5, i), (6, .ref id 0), (7, .i .i64 3)] H = some ⟨.exit 2, [(0, .i .i64 n), (1, t), (5, i), (6, .ref id 0), (7, .i .i64 3), (28, .b false)], H⟩ := by
  rw [den_eq]
  simp [l46_1, b46_0, runC, opsRun, operRun, guardRun, evalO, mapO, Dn.get, putE, keepE, dk, binI]

end Go.Proofs.Try.Dn

namespace Go.Proofs.Try.Dn
open Go.Dn

theorem l64_same {pg : Pg} {H : Heap} {i j : Nat} {k : Nat} {cs ds : List TV} {v : Int} (hk : k < 3) (hi : H[i]? = some (.cells cs true)) (hj : H[j]? = some (.cells ds true)) (h1 : cs[k]? = some (.i .i64 v)) (h2 : ds[k]? = some (.i .i64 v)) :
    den pg l64_1 [(2, .ref i 0), (3, .ref j 0), (5, .i .i64 k)] H = den pg l64_1 [(2, .ref i 0), (3, .ref j 0), (5, .i .i64 ((k + 1 : Nat) : Int))] H := by
  have e1 : ((k : Int) < 3) := by omega
  have e2 : wrapR .i64 ((k : Int) + 1) = .i .i64 ((k + 1 : Nat) : Int) := by rw [gX82 (by omega)]; rfl
  rw [den_eq]
  simp [l64_1, b64_0, runC, opsRun, operRun, guardRun, evalO, mapO, Dn.get, putE, keepE, dk, binI, bound, part_one h1 rfl, part_one h2 rfl, e1, e2, hk, hi, hj]

theorem l64_diff {pg : Pg} {H : Heap} {i j : Nat} {k : Nat} {cs ds : List TV} {v u : Int} (hk : k < 3) (hi : H[i]? = some (.cells cs true)) (hj : H[j]? = some (.cells ds true)) (h1 : cs[k]? = some (.i .i64 v)) (h2 : ds[k]? = some (.i .i64 u)) (hne : v ≠ u) :
    den pg l64_1 [(2, .ref i 0), (3, .ref j 0), (5, .i .i64 k)] H = some ⟨.ret, [(4, .b (decide (v < u)))], H⟩ := by
  have e1 : ((k : Int) < 3) := by omega
  rw [den_eq]
  simp [l64_1, b64_0, runC, opsRun, operRun, guardRun, evalO, mapO, Dn.get, putE, keepE, dk, binI, bound, part_one h1 rfl, part_one h2 rfl, e1, hk, hi, hj, hne]

theorem l64_end {pg : Pg} {H : Heap} {i j : Nat} : den pg l64_1 [(2, .ref i 0), (3, .ref j 0), (5, .i .i64 3)] H = some ⟨.exit 0, [(2, .ref i 0), (3, .ref j 0), (5, .i .i64 3), (7, .b false)], H⟩ := by
  rw [den_eq]
  simp [l64_1, b64_0, runC, opsRun, operRun, guardRun, evalO, mapO, Dn.get, putE, keepE, dk, binI]

end Go.Proofs.Try.Dn

namespace Go.Proofs.Try.Dn
open Go.Dn

def heap2 (a b : Line) : Heap := [.cells [.i .i64 a.1, .i .i64 a.2.1, .i .i64 a.2.2] true, .cells [.i .i64 b.1, .i .i64 b.2.1, .i .i64 b.2.2] true]

theorem l64_run {pg : Pg} (a b : Line) : ∃ e x, den pg l64_1 [(2, .ref 0 0), (3, .ref 1 0), (5, .i .i64 0)] (heap2 a b) = some ⟨x, e, heap2 a b⟩ ∧ (x = .exit 0 ∧ lt3 a b = false ∨ x = .ret ∧ e = [(4, .b (lt3 a b))]) := by
  obtain ⟨a0, a1, a2⟩ := a
  obtain ⟨b0, b1, b2⟩ := b
  by_cases h0 : a0 = b0
  · subst h0
    have k0 := l64_same (pg := pg) (H := heap2 (a0, a1, a2) (a0, b1, b2)) (i := 0) (j := 1) (k := 0) (by omega) rfl rfl rfl rfl
    by_cases h1 : a1 = b1
    · subst h1
      have k1 := l64_same (pg := pg) (H := heap2 (a0, a1, a2) (a0, a1, b2)) (i := 0) (j := 1) (k := 1) (by omega) rfl rfl rfl rfl
      by_cases h2 : a2 = b2
      · subst h2
        have k2 := l64_same (pg := pg) (H := heap2 (a0, a1, a2) (a0, a1, a2)) (i := 0) (j := 1) (k := 2) (by omega) rfl rfl rfl rfl
        exact ⟨_, _, k0.trans (k1.trans (k2.trans l64_end)), .inl ⟨rfl, by simp [lt3]⟩⟩
      · exact ⟨_, _, k0.trans (k1.trans (l64_diff (k := 2) (by omega) rfl rfl rfl rfl h2)), .inr ⟨rfl, by simp [lt3]⟩⟩
    · exact ⟨_, _, k0.trans (l64_diff (k := 1) (by omega) rfl rfl rfl rfl h1), .inr ⟨rfl, by simp [lt3, h1]⟩⟩
  · exact ⟨_, _, l64_diff (k := 0) (by omega) rfl rfl rfl rfl h0, .inr ⟨rfl, by simp [lt3, h0]⟩⟩

theorem run64 {pg : Pg} (hF : pg.F 64 = some d64) (a b : Line) : ∃ H, bodyRun pg (den pg) 64 [lineTV a, lineTV b] [] = some (.b (lt3 a b), H) := by
  obtain ⟨e, x, h, hx⟩ := l64_run (pg := pg) a b
  have h' : runC pg (den pg) l64_1 [(2, .ref 0 0), (3, .ref 1 0), (5, .i .i64 0)] (heap2 a b) = _ := (den_eq _ _ _).symm.trans h
  have hall : ∃ o, runC pg (den pg) c64 [(0, lineTV a), (1, lineTV b)] [] = some o ∧ (∀ id, o.ex ≠ .exit id) ∧ mapO (resRun o.env o.H) d64.res = some [.b (lt3 a b)] := by
    rcases hx with ⟨rfl, h0⟩ | ⟨rfl, rfl⟩
    · refine ⟨⟨.ret, [(4, .b false)], heap2 a b⟩, ?_, by simp, by simp [d64, mapO, resRun, Dn.get, h0]⟩
      simp [c64, runC, opsRun, operRun, guardRun, evalO, mapO, Dn.get, putE, keepE, dk, lineTV, TV.cells, TV.one, TV.isAgg]
      simp [heap2] at h'
      simp [h', heap2]
    · refine ⟨⟨.ret, [(4, .b (lt3 a b))], heap2 a b⟩, ?_, by simp, by simp [d64, mapO, resRun, Dn.get]⟩
      simp [c64, runC, opsRun, operRun, guardRun, evalO, mapO, Dn.get, putE, keepE, dk, lineTV, TV.cells, TV.one, TV.isAgg]
      simp [heap2] at h'
      simp [h', heap2]
  obtain ⟨o, h1, h2, h3⟩ := hall
  exact ⟨o.H, bodyRun_of (xs := [lineTV a, lineTV b]) (H := []) hF rfl h1 h2 h3⟩

end Go.Proofs.Try.Dn

/-
  Pure calls known by what they answer, and lines as values.
-/

namespace Go.Proofs.Try.Dn
open Go.Dn

def Fn (pg : Pg) (f : Nat) (xs : List TV) (r : TV) : Prop :=
  pg.S f xs = some r ∨ pg.S f xs = none ∧ ∃ r' H', bodyRun pg (den pg) f xs [] = some (r', H') ∧ snap .fin H' 9 r' = some r

theorem Fn.call {pg : Pg} {f : Nat} {xs : List TV} {r : TV} (h : Fn pg f xs r) {ks : List Bool} {fs cs args : List TV} {H : Heap} (ha : snapArgs H ks (fs ++ args ++ cs) = some xs) :
    callRun pg (den pg) (.pu ks) (.fn f fs cs :: args) H = some (r, H) := by
  rw [List.append_assoc] at ha
  rcases h with h | ⟨h, r', H', h1, h2⟩
  · simp [callRun, ha, h]
  · simp [callRun, ha, h, h1, h2]

theorem snap_bs (H : Heap) (n : Nat) (b : Bool) (sz : Nat) (es : List TV) : snap .borrow H (n + 1) (.bs b sz es) = (mapO (snap .borrow H n) es).map fun es' => .bs true sz es' := by
  rw [snap]; rfl

def LT (b : Bool) : List Line → TV
  | [] => .nilsl
  | x :: l => .bs b 3 (lineTV x :: l.map lineTV)

theorem LT_ne {b : Bool} {l : List Line} (h : l ≠ []) : LT b l = .bs b 3 (l.map lineTV) := by cases l <;> simp_all [LT]

theorem LT_len (b : Bool) (l : List Line) (H : Heap) : lenK 0 (LT b l) H = some l.length := by cases l <;> simp [LT, lenK]

theorem snap_line (m : SM) (H : Heap) (n : Nat) (x : Line) : snap m H (n + 2) (lineTV x) = some (lineTV x) := by
  simp [lineTV, snap, mapO]

theorem mapO_lines (m : SM) (H : Heap) (n : Nat) : ∀ l : List Line, mapO (snap m H (n + 2)) (l.map lineTV) = some (l.map lineTV)
  | [] => rfl
  | x :: l => by simp [mapO, snap_line, mapO_lines m H n l]

theorem snap_LT (b : Bool) (H : Heap) (l : List Line) : snap .borrow H 9 (LT b l) = some (LT true l) := by
  cases l with
  | nil => simp [LT, snap]
  | cons x l =>
    have := mapO_lines .borrow H 6 (x :: l)
    simp only [List.map_cons] at this
    simp only [LT, snap_bs, this, Option.map_some]

theorem snap_int (m : SM) (H : Heap) (k : IntKind) (n : Int) : snap m H 9 (.i k n) = some (.i k n) := by simp [snap]

end Go.Proofs.Try.Dn

/-
  The reference's Check: its rounds.
-/

namespace Go.Proofs.Try.Dn
open Go.Dn

def inside (n : Int) (x : Line) : Bool := decide (0 ≤ x.1) && decide (x.1 < n) && decide (0 ≤ x.2.1) && decide (x.2.1 < n) && decide (0 ≤ x.2.2) && decide (x.2.2 < n)

theorem l46_in {pg : Pg} {H : Heap} {id : Nat} {n : Int} {i t : TV} {x : Line} (hc : H[id]? = some (.cells [.i .i64 x.1, .i .i64 x.2.1, .i .i64 x.2.2] true)) (h : inside n x = true) :
    den pg l46_1 [(0, .i .i64 n), (1, t), (5, i), (6, .ref id 0), (7, .i .i64 0)] H = some ⟨.exit 2, [(0, .i .i64 n), (1, t), (5, i), (6, .ref id 0), (7, .i .i64 3), (28, .b false)], H⟩ := by
  obtain ⟨a, b, c⟩ := x
  simp only [inside, Bool.and_eq_true, decide_eq_true_eq] at h
  obtain ⟨⟨⟨⟨⟨h1, h2⟩, h3⟩, h4⟩, h5⟩, h6⟩ := h
  exact (l46_step (k := 0) (by omega) hc rfl h1 h2).trans ((l46_step (k := 1) (by omega) hc rfl h3 h4).trans ((l46_step (k := 2) (by omega) hc rfl h5 h6).trans l46_end))

theorem l46_out {pg : Pg} {H : Heap} {id : Nat} {n : Int} {i t : TV} {x : Line} (hc : H[id]? = some (.cells [.i .i64 x.1, .i .i64 x.2.1, .i .i64 x.2.2] true)) (h : inside n x = false) :
    den pg l46_1 [(0, .i .i64 n), (1, t), (5, i), (6, .ref id 0), (7, .i .i64 0)] H = some ⟨.ret, [(4, .i .i64 20)], H⟩ := by
  obtain ⟨a, b, c⟩ := x
  by_cases h1 : 0 ≤ a
  · by_cases h2 : a < n
    · refine (l46_step (k := 0) (by omega) hc rfl h1 h2).trans ?_
      by_cases h3 : 0 ≤ b
      · by_cases h4 : b < n
        · refine (l46_step (k := 1) (by omega) hc rfl h3 h4).trans ?_
          by_cases h5 : 0 ≤ c
          · by_cases h6 : c < n
            · simp [inside, h1, h2, h3, h4, h5, h6] at h
            · exact l46_high (k := 2) (by omega) hc rfl h5 (by first | omega | (simp only; omega))
          · exact l46_low (k := 2) (by omega) hc rfl (by first | omega | (simp only; omega))
        · exact l46_high (k := 1) (by omega) hc rfl h3 (by first | omega | (simp only; omega))
      · exact l46_low (k := 1) (by omega) hc rfl (by first | omega | (simp only; omega))
    · exact l46_high (k := 0) (by omega) hc rfl h1 (by first | omega | (simp only; omega))
  · exact l46_low (k := 0) (by omega) hc rfl (by first | omega | (simp only; omega))

structure Free (pg : Pg) : Prop where
  F : pg.F = tab.look
  S : ∀ f xs, f ≠ 22 → pg.S f xs = none

theorem fn64 {pg : Pg} (h : Free pg) (a b : Line) : Fn pg 64 [lineTV a, lineTV b] (.b (lt3 a b)) := by
  obtain ⟨H, hH⟩ := run64 (pg := pg) (by rw [h.F]; rfl) a b
  exact .inr ⟨h.S _ _ (by decide), _, _, hH, by simp [snap]⟩

theorem call64 {pg : Pg} (h : Free pg) (a0 a1 a2 b0 b1 b2 : Int) (H : Heap) : callRun pg (den pg) (.pu []) [.fn 64 [] [], .agg [.i .i64 a0, .i .i64 a1, .i .i64 a2], .agg [.i .i64 b0, .i .i64 b1, .i .i64 b2]] H = some (.b (lt3 (a0, a1, a2) (b0, b1, b2)), H) :=
  (fn64 h (a0, a1, a2) (b0, b1, b2)).call (args := [lineTV (a0, a1, a2), lineTV (b0, b1, b2)]) (by simp [snapArgs, snap_line, lineTV, snap, mapO])

theorem getLt {l : List Line} {i : Nat} {x : Line} (h : l[i]? = some x) : i < l.length := (List.getElem?_eq_some_iff.1 h).1

theorem l46_stop {pg : Pg} {H : Heap} {n : Int} {b : Bool} {l : List Line} {i : Nat} (hi : ¬ i < l.length) :
    den pg l46_3 [(0, .i .i64 n), (1, LT b l), (5, .i .i64 i)] H = some ⟨.exit 0, [(0, .i .i64 n), (1, LT b l), (5, .i .i64 i), (20, .b false)], H⟩ := by
  have e1 : ¬ ((i : Int) < (l.length : Int)) := by omega
  rw [l46_3, den_loop]
  simp [b46_2, gX0, gX1, gX2, gX3, gX4, gX5, gX6, gX7, gX8, gX9, gXa, gXb, gXc, gXd, gXe, gXf, gXg, gXh, gXi, gXj, gXk, gXl, gXm, gXn, gXo, gXp, gXq, gXr, gXs, gXt, gXu, gXv, gXw, gXx, k_mv, gXy, gXz, gX01, gX11, gX21, gX31, gX41, gX51, gX61, gX71, gX81, gX91, gXa1, gXb1, gXc1, gXd1, gXe1, gXf1, gXg1, gXh1, gXi1, gXj1, gXk1, gXl1, gXm1, gXn1, gXo1, gXp1, gXq1, gXr1, gXs1, gXt1, gXu1, k_mn, k_mx, gXv1, gXw1, gXx1, gXy1, gXz1, gX02, gX12, gX22, gX32, gX42, gX52, gX62, gX72, Dn.setLast, Dn.getLast, evalO, mapO, Dn.get, putE, keepE, TV.one, TV.isAgg, Dn.part, LT_len, e1]

theorem LT_getne {l : List Line} {i : Nat} {x : Line} (h : l[i]? = some x) : l ≠ [] := by rintro rfl; simp at h

def cl (x : Line) : AObj := .cells [.i .i64 x.1, .i .i64 x.2.1, .i .i64 x.2.2] true

end Go.Proofs.Try.Dn

namespace Go.Proofs.Try.Dn
open Go.Dn

theorem l46_out' {pg : Pg} {H : Heap} {n : Int} {b : Bool} {l : List Line} {i : Nat} {x : Line} (hi : l[i]? = some x) (h : inside n x = false) :
    den pg l46_3 [(0, .i .i64 n), (1, LT b l), (5, .i .i64 i)] H = some ⟨.ret, [(4, .i .i64 20)], H ++ [cl x]⟩ := by
  have hl := getLt hi
  have e1 : ((i : Int) < (l.length : Int)) := by omega
  have hin := l46_out (pg := pg) (t := LT b l) (i := .i .i64 i) (getLast H (.cells [.i .i64 x.1, .i .i64 x.2.1, .i .i64 x.2.2] true)) h
  rw [LT_ne (LT_getne hi)] at hin ⊢
  rw [l46_3, den_loop]
  simp [l46_3, b46_2, gX0, gX1, gX2, gX3, gX4, gX5, gX6, gX7, gX8, gX9, gXa, gXb, gXc, gXd, gXe, gXf, gXg, gXh, gXi, gXj, gXk, gXl, gXm, gXn, gXo, gXp, gXq, gXr, gXs, gXt, gXu, gXv, gXw, gXx, k_mv, gXy, gXz, gX01, gX11, gX21, gX31, gX41, gX51, gX61, gX71, gX81, gX91, gXa1, gXb1, gXc1, gXd1, gXe1, gXf1, gXg1, gXh1, gXi1, gXj1, gXk1, gXl1, gXm1, gXn1, gXo1, gXp1, gXq1, gXr1, gXs1, gXt1, gXu1, k_mn, k_mx, gXv1, gXw1, gXx1, gXy1, gXz1, gX02, gX12, gX22, gX32, gX42, gX52, gX62, gX72, Dn.setLast, Dn.getLast, evalO, mapO, Dn.get, putE, keepE, TV.one, TV.isAgg, Dn.part, go_den l46_1, lenK, e1, hi, lineTV, put2, hin, cl]

def odd (i : Nat) (q x : Line) : Bool := decide (x.2.2 ≤ x.1) || decide (x.2.1 = x.1) || decide (x.2.1 = x.2.2) || (decide (0 < i) && !lt3 q x)

theorem l46_in' {pg : Pg} (hF : Free pg) {H : Heap} {n : Int} {b : Bool} {l : List Line} {i : Nat} {x q : Line} (hm : l.length ≤ 40) (hi : l[i]? = some x) (hq : 0 < i → l[i - 1]? = some q) (h : inside n x = true) :
    den pg l46_3 [(0, .i .i64 n), (1, LT b l), (5, .i .i64 i)] H = if odd i q x = true then some ⟨.ret, [(4, .i .i64 20)], H ++ [cl x]⟩ else den pg l46_3 [(0, .i .i64 n), (1, LT b l), (5, .i .i64 ((i + 1 : Nat) : Int))] (H ++ [cl x]) := by
  have hl := getLt hi
  have e1 : ((i : Int) < (l.length : Int)) := by omega
  have e2 : wrapR .i64 ((i : Int) + 1) = .i .i64 ((i : Int) + 1) := gX82 (by omega)
  have e3 : wrapR .i64 ((i : Int) - 1) = .i .i64 ((i : Int) - 1) := gX82 (by omega)
  have e4 : ((i : Int) - 1).toNat = i - 1 := by omega
  have hin := l46_in (pg := pg) (t := LT b l) (i := .i .i64 i) (getLast H (.cells [.i .i64 x.1, .i .i64 x.2.1, .i .i64 x.2.2] true)) h
  rw [LT_ne (LT_getne hi)] at hin ⊢
  by_cases c1 : x.2.2 ≤ x.1
  · have : odd i q x = true := by simp [odd, c1]
    rw [if_pos this, l46_3, den_loop]
    simp [l46_3, b46_2, gX0, gX1, gX2, gX3, gX4, gX5, gX6, gX7, gX8, gX9, gXa, gXb, gXc, gXd, gXe, gXf, gXg, gXh, gXi, gXj, gXk, gXl, gXm, gXn, gXo, gXp, gXq, gXr, gXs, gXt, gXu, gXv, gXw, gXx, k_mv, gXy, gXz, gX01, gX11, gX21, gX31, gX41, gX51, gX61, gX71, gX81, gX91, gXa1, gXb1, gXc1, gXd1, gXe1, gXf1, gXg1, gXh1, gXi1, gXj1, gXk1, gXl1, gXm1, gXn1, gXo1, gXp1, gXq1, gXr1, gXs1, gXt1, gXu1, k_mn, k_mx, gXv1, gXw1, gXx1, gXy1, gXz1, gX02, gX12, gX22, gX32, gX42, gX52, gX62, gX72, Dn.setLast, Dn.getLast, evalO, mapO, Dn.get, putE, keepE, TV.one, TV.isAgg, Dn.part, go_den l46_1, lenK, e1, hi, lineTV, put2, hin, cl, c1]
  by_cases c2 : x.2.1 = x.1
  · have : odd i q x = true := by simp [odd, c2]
    have c2' : (x.2.1 == x.1) = true := by simp [c2]
    rw [if_pos this, l46_3, den_loop]
    simp [l46_3, b46_2, gX0, gX1, gX2, gX3, gX4, gX5, gX6, gX7, gX8, gX9, gXa, gXb, gXc, gXd, gXe, gXf, gXg, gXh, gXi, gXj, gXk, gXl, gXm, gXn, gXo, gXp, gXq, gXr, gXs, gXt, gXu, gXv, gXw, gXx, k_mv, gXy, gXz, gX01, gX11, gX21, gX31, gX41, gX51, gX61, gX71, gX81, gX91, gXa1, gXb1, gXc1, gXd1, gXe1, gXf1, gXg1, gXh1, gXi1, gXj1, gXk1, gXl1, gXm1, gXn1, gXo1, gXp1, gXq1, gXr1, gXs1, gXt1, gXu1, k_mn, k_mx, gXv1, gXw1, gXx1, gXy1, gXz1, gX02, gX12, gX22, gX32, gX42, gX52, gX62, gX72, Dn.setLast, Dn.getLast, evalO, mapO, Dn.get, putE, keepE, TV.one, TV.isAgg, Dn.part, go_den l46_1, lenK, e1, hi, lineTV, put2, hin, cl, c1, c2']
  by_cases c3 : x.2.1 = x.2.2
  · have : odd i q x = true := by simp [odd, c3]
    have c3' : (x.2.1 == x.2.2) = true := by simp [c3]
    rw [if_pos this, l46_3, den_loop]
    simp [l46_3, b46_2, gX0, gX1, gX2, gX3, gX4, gX5, gX6, gX7, gX8, gX9, gXa, gXb, gXc, gXd, gXe, gXf, gXg, gXh, gXi, gXj, gXk, gXl, gXm, gXn, gXo, gXp, gXq, gXr, gXs, gXt, gXu, gXv, gXw, gXx, k_mv, gXy, gXz, gX01, gX11, gX21, gX31, gX41, gX51, gX61, gX71, gX81, gX91, gXa1, gXb1, gXc1, gXd1, gXe1, gXf1, gXg1, gXh1, gXi1, gXj1, gXk1, gXl1, gXm1, gXn1, gXo1, gXp1, gXq1, gXr1, gXs1, gXt1, gXu1, k_mn, k_mx, gXv1, gXw1, gXx1, gXy1, gXz1, gX02, gX12, gX22, gX32, gX42, gX52, gX62, gX72, Dn.setLast, Dn.getLast, evalO, mapO, Dn.get, putE, keepE, TV.one, TV.isAgg, Dn.part, go_den l46_1, lenK, e1, hi, lineTV, put2, hin, cl, c1, c2, c3']
  by_cases c4 : 0 < i
  · have c4' : (0 : Int) < i := by omega
    have c4'' : (0 : Int) ≤ (i : Int) - 1 := by omega
    have c4a : (1 : Int) ≤ (i : Int) := by omega
    by_cases c5 : lt3 q x = true
    · have : ¬ odd i q x = true := by simp [odd, c1, c2, c3, c4, c5]
      rw [if_neg this, l46_3, den_loop]
      simp [l46_3, b46_2, gX0, gX1, gX2, gX3, gX4, gX5, gX6, gX7, gX8, gX9, gXa, gXb, gXc, gXd, gXe, gXf, gXg, gXh, gXi, gXj, gXk, gXl, gXm, gXn, gXo, gXp, gXq, gXr, gXs, gXt, gXu, gXv, gXw, gXx, k_mv, gXy, gXz, gX01, gX11, gX21, gX31, gX41, gX51, gX61, gX71, gX81, gX91, gXa1, gXb1, gXc1, gXd1, gXe1, gXf1, gXg1, gXh1, gXi1, gXj1, gXk1, gXl1, gXm1, gXn1, gXo1, gXp1, gXq1, gXr1, gXs1, gXt1, gXu1, k_mn, k_mx, gXv1, gXw1, gXx1, gXy1, gXz1, gX02, gX12, gX22, gX32, gX42, gX52, gX62, gX72, Dn.setLast, Dn.getLast, evalO, mapO, Dn.get, putE, keepE, TV.one, TV.isAgg, Dn.part, go_den l46_1, lenK, e1, hi, lineTV, put2, hin, cl, c1, c2, c3, c4, c4', e3, e4, hq c4, call64 hF, c5, e2, c4'', c4a, l46_3]
    · have : odd i q x = true := by simp [odd, c4, c5]
      rw [if_pos this, l46_3, den_loop]
      simp [l46_3, b46_2, gX0, gX1, gX2, gX3, gX4, gX5, gX6, gX7, gX8, gX9, gXa, gXb, gXc, gXd, gXe, gXf, gXg, gXh, gXi, gXj, gXk, gXl, gXm, gXn, gXo, gXp, gXq, gXr, gXs, gXt, gXu, gXv, gXw, gXx, k_mv, gXy, gXz, gX01, gX11, gX21, gX31, gX41, gX51, gX61, gX71, gX81, gX91, gXa1, gXb1, gXc1, gXd1, gXe1, gXf1, gXg1, gXh1, gXi1, gXj1, gXk1, gXl1, gXm1, gXn1, gXo1, gXp1, gXq1, gXr1, gXs1, gXt1, gXu1, k_mn, k_mx, gXv1, gXw1, gXx1, gXy1, gXz1, gX02, gX12, gX22, gX32, gX42, gX52, gX62, gX72, Dn.setLast, Dn.getLast, evalO, mapO, Dn.get, putE, keepE, TV.one, TV.isAgg, Dn.part, go_den l46_1, lenK, e1, hi, lineTV, put2, hin, cl, c1, c2, c3, c4, c4', e3, e4, hq c4, call64 hF, c5, e2, c4'', c4a, l46_3]
  · have : ¬ odd i q x = true := by simp [odd, c1, c2, c3, c4]
    have c4' : ¬ (0 : Int) < i := by omega
    rw [if_neg this, l46_3, den_loop]
    simp [l46_3, b46_2, gX0, gX1, gX2, gX3, gX4, gX5, gX6, gX7, gX8, gX9, gXa, gXb, gXc, gXd, gXe, gXf, gXg, gXh, gXi, gXj, gXk, gXl, gXm, gXn, gXo, gXp, gXq, gXr, gXs, gXt, gXu, gXv, gXw, gXx, k_mv, gXy, gXz, gX01, gX11, gX21, gX31, gX41, gX51, gX61, gX71, gX81, gX91, gXa1, gXb1, gXc1, gXd1, gXe1, gXf1, gXg1, gXh1, gXi1, gXj1, gXk1, gXl1, gXm1, gXn1, gXo1, gXp1, gXq1, gXr1, gXs1, gXt1, gXu1, k_mn, k_mx, gXv1, gXw1, gXx1, gXy1, gXz1, gX02, gX12, gX22, gX32, gX42, gX52, gX62, gX72, Dn.setLast, Dn.getLast, evalO, mapO, Dn.get, putE, keepE, TV.one, TV.isAgg, Dn.part, go_den l46_1, lenK, e1, hi, lineTV, put2, hin, cl, c1, c2, c3, c4, c4', e2, l46_3]

end Go.Proofs.Try.Dn

/-
  The reference's Check answers as 'chk' says.
-/

namespace Go.Proofs.Try.Dn
open Go.Dn

theorem Fn.of_go {pg : Pg} {f : Nat} {xs : List TV} {d : DFun} {x : Ex} {e : Env} {H' : Heap} {vs : List TV} {r : TV} (hS : pg.S f xs = none) (hd : pg.F f = some d) (hl : xs.length = d.np)
    (ho : go pg (den pg) [.c d.body] .normal (zipE xs 0) [] = some ⟨x, e, H'⟩) (hx : x = .ret ∨ x = .normal) (hv : mapO (resRun e H') d.res = some vs) (hs : snap .fin H' 9 (tupR vs) = some r) : Fn pg f xs r := by
  refine .inr ⟨hS, _, _, bodyRun_of (o := ⟨x, e, H'⟩) hd hl (by rw [runC_go]; exact ho) ?_ hv, hs⟩
  intro id
  rcases hx with rfl | rfl <;> simp

theorem Fn.of1 {pg : Pg} {f : Nat} {xs : List TV} {d : DFun} {x : Ex} {e : Env} {H' : Heap} {r : TV} (hS : pg.S f xs = none) (hd : pg.F f = some d) (hl : xs.length = d.np)
    (ho : go pg (den pg) [.c d.body] .normal (zipE xs 0) [] = some ⟨x, e, H'⟩) (hx : x = .ret ∨ x = .normal) (hv : mapO (resRun e H') d.res = some [r]) (hs : snap .fin H' 9 r = some r) : Fn pg f xs r :=
  .of_go hS hd hl ho hx hv hs

theorem snap_b (m : SM) (H : Heap) (x : Bool) : snap m H 9 (.b x) = some (.b x) := by simp [snap]

def prev (l : List Line) : Nat → Option Line
  | 0 => none
  | i + 1 => l[i]?

def worse : Option Line → Line → Bool
  | none, _ => false
  | some q, x => !lt3 q x

def IsPrev (i : Nat) (q : Line) : Option Line → Prop
  | none => i = 0
  | some y => 0 < i ∧ y = q

theorem bad_iff {n : Int} {p : Option Line} {i : Nat} {x q : Line} (hp : IsPrev i q p) : (lineBad n x || worse p x) = (!inside n x || odd i q x) := by
  rw [Bool.eq_iff_iff]
  cases p with
  | none =>
    have hp : i = 0 := hp
    subst hp
    simp [lineBad, inside, odd, worse]
    omega
  | some y =>
    obtain ⟨h, rfl⟩ := hp
    simp [lineBad, inside, odd, worse, h]
    cases lt3 y x <;> simp <;> omega

theorem chkFrom_cons (n : Int) (p : Option Line) (x : Line) (l : List Line) : chkFrom n p (x :: l) = if (lineBad n x || worse p x) = true then 20 else chkFrom n (some x) l := by
  cases p <;> rfl

theorem l46_all {pg : Pg} (hF : Free pg) {n : Int} {b : Bool} {l : List Line} (hm : l.length ≤ 40) : ∀ (k i : Nat) (H : Heap), i + k = l.length →
    ∃ x e H', den pg l46_3 [(0, .i .i64 n), (1, LT b l), (5, .i .i64 i)] H = some ⟨x, e, H'⟩ ∧ (x = .exit 0 ∧ chkFrom n (prev l i) (l.drop i) = 0 ∨ x = .ret ∧ e = [(4, .i .i64 20)] ∧ chkFrom n (prev l i) (l.drop i) = 20)
  | 0, i, H, h => by
    refine ⟨_, _, _, l46_stop (by omega), .inl ⟨rfl, ?_⟩⟩
    rw [List.drop_eq_nil_of_le (by omega)]
    unfold chkFrom; rfl
  | k + 1, i, H, h => by
    have hi : i < l.length := by omega
    have hx : l[i]? = some l[i] := List.getElem?_eq_getElem hi
    have hd : l.drop i = l[i] :: l.drop (i + 1) := List.drop_eq_getElem_cons hi
    obtain ⟨q, hq, hp⟩ : ∃ q, (0 < i → l[i - 1]? = some q) ∧ IsPrev i q (prev l i) := by
      cases i with
      | zero => exact ⟨(0, 0, 0), fun h => by omega, rfl⟩
      | succ i =>
        have : l[i]? = some l[i] := List.getElem?_eq_getElem (by omega)
        refine ⟨l[i], fun _ => this, ?_⟩
        have h2 : IsPrev (i + 1) l[i] (some l[i]) := ⟨by omega, rfl⟩
        rw [← this] at h2
        exact h2
    have hbad := bad_iff (n := n) (x := l[i]) hp
    rw [hd, chkFrom_cons, hbad]
    by_cases hin : inside n l[i] = true
    · have hstep := l46_in' hF (H := H) (b := b) hm hx hq hin
      by_cases ho : odd i q l[i] = true
      · rw [if_pos ho] at hstep
        exact ⟨_, _, _, hstep, .inr ⟨rfl, rfl, by simp [ho]⟩⟩
      · rw [if_neg ho] at hstep
        obtain ⟨x, e, H', h1, h2⟩ := l46_all hF hm k (i + 1) (H ++ [cl l[i]]) (by omega)
        refine ⟨x, e, H', hstep.trans h1, ?_⟩
        rw [if_neg (by simp [hin, ho])]
        have : prev l (i + 1) = some l[i] := hx
        rw [this] at h2
        exact h2
    · have hin' : inside n l[i] = false := by simpa using hin
      exact ⟨_, _, _, l46_out' hx hin', .inr ⟨rfl, rfl, by simp [hin']⟩⟩

theorem fn46 {pg : Pg} (hF : Free pg) (n : Int) (b : Bool) (l : List Line) : Fn pg 46 [.i .i64 n, LT b l] (.i .i64 (chk n l)) := by
  have hd : pg.F 46 = some d46 := by rw [hF.F]; rfl
  have hS := hF.S 46 [.i .i64 n, LT b l] (by decide)
  by_cases h1 : n < 1
  · refine .of_go hS hd rfl (x := .ret) (e := [(4, .i .i64 1)]) (H' := []) ?_ (.inl rfl) rfl (by simp [snap, chk, h1, tupR])
    simp [d46, c46, zipE, gX0, gX1, gX2, gX3, gX4, gX5, gX6, gX7, gX8, gX9, gXa, gXb, gXc, gXd, gXe, gXf, gXg, gXh, gXi, gXj, gXk, gXl, gXm, gXn, gXo, gXp, gXq, gXr, gXs, gXt, gXu, gXv, gXw, gXx, k_mv, gXy, gXz, gX01, gX11, gX21, gX31, gX41, gX51, gX61, gX71, gX81, gX91, gXa1, gXb1, gXc1, gXd1, gXe1, gXf1, gXg1, gXh1, gXi1, gXj1, gXk1, gXl1, gXm1, gXn1, gXo1, gXp1, gXq1, gXr1, gXs1, gXt1, gXu1, k_mn, k_mx, gXv1, gXw1, gXx1, gXy1, gXz1, gX02, gX12, gX22, gX32, gX42, gX52, gX62, gX72, Dn.setLast, Dn.getLast, evalO, mapO, Dn.get, putE, keepE, TV.one, TV.isAgg, Dn.part, h1]
  by_cases h2 : 16 < n
  · refine .of_go hS hd rfl (x := .ret) (e := [(4, .i .i64 1)]) (H' := []) ?_ (.inl rfl) rfl (by simp [snap, chk, h2, tupR])
    simp [d46, c46, zipE, gX0, gX1, gX2, gX3, gX4, gX5, gX6, gX7, gX8, gX9, gXa, gXb, gXc, gXd, gXe, gXf, gXg, gXh, gXi, gXj, gXk, gXl, gXm, gXn, gXo, gXp, gXq, gXr, gXs, gXt, gXu, gXv, gXw, gXx, k_mv, gXy, gXz, gX01, gX11, gX21, gX31, gX41, gX51, gX61, gX71, gX81, gX91, gXa1, gXb1, gXc1, gXd1, gXe1, gXf1, gXg1, gXh1, gXi1, gXj1, gXk1, gXl1, gXm1, gXn1, gXo1, gXp1, gXq1, gXr1, gXs1, gXt1, gXu1, k_mn, k_mx, gXv1, gXw1, gXx1, gXy1, gXz1, gX02, gX12, gX22, gX32, gX42, gX52, gX62, gX72, Dn.setLast, Dn.getLast, evalO, mapO, Dn.get, putE, keepE, TV.one, TV.isAgg, Dn.part, h1, h2]
  by_cases h3 : 40 < l.length
  · have h3' : (40 : Int) < l.length := by omega
    refine .of_go hS hd rfl (x := .ret) (e := [(4, .i .i64 2)]) (H' := []) ?_ (.inl rfl) rfl (by simp [snap, chk, h1, h2, h3, tupR])
    simp [d46, c46, zipE, gX0, gX1, gX2, gX3, gX4, gX5, gX6, gX7, gX8, gX9, gXa, gXb, gXc, gXd, gXe, gXf, gXg, gXh, gXi, gXj, gXk, gXl, gXm, gXn, gXo, gXp, gXq, gXr, gXs, gXt, gXu, gXv, gXw, gXx, k_mv, gXy, gXz, gX01, gX11, gX21, gX31, gX41, gX51, gX61, gX71, gX81, gX91, gXa1, gXb1, gXc1, gXd1, gXe1, gXf1, gXg1, gXh1, gXi1, gXj1, gXk1, gXl1, gXm1, gXn1, gXo1, gXp1, gXq1, gXr1, gXs1, gXt1, gXu1, k_mn, k_mx, gXv1, gXw1, gXx1, gXy1, gXz1, gX02, gX12, gX22, gX32, gX42, gX52, gX62, gX72, Dn.setLast, Dn.getLast, evalO, mapO, Dn.get, putE, keepE, TV.one, TV.isAgg, Dn.part, h1, h2, LT_len, h3, h3']
  · have h3' : ¬ (40 : Int) < l.length := by omega
    obtain ⟨x, e, H', h4, h5⟩ := l46_all hF (n := n) (b := b) (l := l) (by omega) l.length 0 [] (by omega)
    simp only [List.drop_zero, prev] at h5
    rcases h5 with ⟨rfl, h5⟩ | ⟨rfl, rfl, h5⟩
    · refine .of_go hS hd rfl (x := .ret) (e := [(4, .i .i64 0)]) (H' := H') ?_ (.inl rfl) rfl (by simp [snap, chk, h1, h2, h3, h5, tupR])
      simp [d46, c46, zipE, gX0, gX1, gX2, gX3, gX4, gX5, gX6, gX7, gX8, gX9, gXa, gXb, gXc, gXd, gXe, gXf, gXg, gXh, gXi, gXj, gXk, gXl, gXm, gXn, gXo, gXp, gXq, gXr, gXs, gXt, gXu, gXv, gXw, gXx, k_mv, gXy, gXz, gX01, gX11, gX21, gX31, gX41, gX51, gX61, gX71, gX81, gX91, gXa1, gXb1, gXc1, gXd1, gXe1, gXf1, gXg1, gXh1, gXi1, gXj1, gXk1, gXl1, gXm1, gXn1, gXo1, gXp1, gXq1, gXr1, gXs1, gXt1, gXu1, k_mn, k_mx, gXv1, gXw1, gXx1, gXy1, gXz1, gX02, gX12, gX22, gX32, gX42, gX52, gX62, gX72, Dn.setLast, Dn.getLast, evalO, mapO, Dn.get, putE, keepE, TV.one, TV.isAgg, Dn.part, h1, h2, LT_len, h3, h3', go_den l46_3]
      simp at h4
      simp [h4, gX0, gX1, gX2, gX3, gX4, gX5, gX6, gX7, gX8, gX9, gXa, gXb, gXc, gXd, gXe, gXf, gXg, gXh, gXi, gXj, gXk, gXl, gXm, gXn, gXo, gXp, gXq, gXr, gXs, gXt, gXu, gXv, gXw, gXx, k_mv, gXy, gXz, gX01, gX11, gX21, gX31, gX41, gX51, gX61, gX71, gX81, gX91, gXa1, gXb1, gXc1, gXd1, gXe1, gXf1, gXg1, gXh1, gXi1, gXj1, gXk1, gXl1, gXm1, gXn1, gXo1, gXp1, gXq1, gXr1, gXs1, gXt1, gXu1, k_mn, k_mx, gXv1, gXw1, gXx1, gXy1, gXz1, gX02, gX12, gX22, gX32, gX42, gX52, gX62, gX72, Dn.setLast, Dn.getLast, evalO, mapO, Dn.get, putE, keepE, TV.one, TV.isAgg, Dn.part]
    · refine .of_go hS hd rfl (x := .ret) (e := [(4, .i .i64 20)]) (H' := H') ?_ (.inl rfl) rfl (by simp [snap, chk, h1, h2, h3, h5, tupR])
      simp [d46, c46, zipE, gX0, gX1, gX2, gX3, gX4, gX5, gX6, gX7, gX8, gX9, gXa, gXb, gXc, gXd, gXe, gXf, gXg, gXh, gXi, gXj, gXk, gXl, gXm, gXn, gXo, gXp, gXq, gXr, gXs, gXt, gXu, gXv, gXw, gXx, k_mv, gXy, gXz, gX01, gX11, gX21, gX31, gX41, gX51, gX61, gX71, gX81, gX91, gXa1, gXb1, gXc1, gXd1, gXe1, gXf1, gXg1, gXh1, gXi1, gXj1, gXk1, gXl1, gXm1, gXn1, gXo1, gXp1, gXq1, gXr1, gXs1, gXt1, gXu1, k_mn, k_mx, gXv1, gXw1, gXx1, gXy1, gXz1, gX02, gX12, gX22, gX32, gX42, gX52, gX62, gX72, Dn.setLast, Dn.getLast, evalO, mapO, Dn.get, putE, keepE, TV.one, TV.isAgg, Dn.part, h1, h2, LT_len, h3, h3', go_den l46_3]
      simp at h4
      simp [h4, gX0, gX1, gX2, gX3, gX4, gX5, gX6, gX7, gX8, gX9, gXa, gXb, gXc, gXd, gXe, gXf, gXg, gXh, gXi, gXj, gXk, gXl, gXm, gXn, gXo, gXp, gXq, gXr, gXs, gXt, gXu, gXv, gXw, gXx, k_mv, gXy, gXz, gX01, gX11, gX21, gX31, gX41, gX51, gX61, gX71, gX81, gX91, gXa1, gXb1, gXc1, gXd1, gXe1, gXf1, gXg1, gXh1, gXi1, gXj1, gXk1, gXl1, gXm1, gXn1, gXo1, gXp1, gXq1, gXr1, gXs1, gXt1, gXu1, k_mn, k_mx, gXv1, gXw1, gXx1, gXy1, gXz1, gX02, gX12, gX22, gX32, gX42, gX52, gX62, gX72, Dn.setLast, Dn.getLast, evalO, mapO, Dn.get, putE, keepE, TV.one, TV.isAgg, Dn.part]

end Go.Proofs.Try.Dn

/-
  slices.Compare on two lists of three.
-/

namespace Go.Proofs.Try.Dn
open Go.Dn

theorem fn97 {pg : Pg} (hF : Free pg) (v : Int) : Fn pg 97 [.i .i64 v] (.b false) := by
  refine .of1 (x := .ret) (e := [(2, .b false)]) (H' := []) (hF.S _ _ (by decide)) (d := d97) (by rw [hF.F]; rfl) rfl ?_ (.inl rfl) rfl (snap_b _ _ _)
  simp [d97, c97, zipE, gX0, gX1, gX2, gX3, gX4, gX5, gX6, gX7, gX8, gX9, gXa, gXb, gXc, gXd, gXe, gXf, gXg, gXh, gXi, gXj, gXk, gXl, gXm, gXn, gXo, gXp, gXq, gXr, gXs, gXt, gXu, gXv, gXw, gXx, k_mv, gXy, gXz, gX01, gX11, gX21, gX31, gX41, gX51, gX61, gX71, gX81, gX91, gXa1, gXb1, gXc1, gXd1, gXe1, gXf1, gXg1, gXh1, gXi1, gXj1, gXk1, gXl1, gXm1, gXn1, gXo1, gXp1, gXq1, gXr1, gXs1, gXt1, gXu1, k_mn, k_mx, gXv1, gXw1, gXx1, gXy1, gXz1, gX02, gX12, gX22, gX32, gX42, gX52, gX62, gX72, Dn.setLast, Dn.getLast, evalO, mapO, Dn.get, putE, keepE, TV.one, TV.isAgg, Dn.part]

theorem call97 {pg : Pg} (hF : Free pg) (v : Int) (H : Heap) : callRun pg (den pg) (.pu []) [.fn 97 [] [], .i .i64 v] H = some (.b false, H) :=
  (fn97 hF v).call (args := [.i .i64 v]) (by simp [snapArgs, snap])

def cmpI (a b : Int) : Int := if a < b then -1 else if b < a then 1 else 0

theorem fn83 {pg : Pg} (hF : Free pg) (a b : Int) : Fn pg 83 [.i .i64 a, .i .i64 b] (.i .i64 (cmpI a b)) := by
  refine .of1 (x := .ret) (e := [(4, .i .i64 (cmpI a b))]) (H' := []) (hF.S _ _ (by decide)) (d := d83) (by rw [hF.F]; rfl) rfl ?_ (.inl rfl) rfl (snap_int _ _ _ _)
  by_cases h1 : a < b
  · simp [d83, c83, zipE, gX0, gX1, gX2, gX3, gX4, gX5, gX6, gX7, gX8, gX9, gXa, gXb, gXc, gXd, gXe, gXf, gXg, gXh, gXi, gXj, gXk, gXl, gXm, gXn, gXo, gXp, gXq, gXr, gXs, gXt, gXu, gXv, gXw, gXx, k_mv, gXy, gXz, gX01, gX11, gX21, gX31, gX41, gX51, gX61, gX71, gX81, gX91, gXa1, gXb1, gXc1, gXd1, gXe1, gXf1, gXg1, gXh1, gXi1, gXj1, gXk1, gXl1, gXm1, gXn1, gXo1, gXp1, gXq1, gXr1, gXs1, gXt1, gXu1, k_mn, k_mx, gXv1, gXw1, gXx1, gXy1, gXz1, gX02, gX12, gX22, gX32, gX42, gX52, gX62, gX72, Dn.setLast, Dn.getLast, evalO, mapO, Dn.get, putE, keepE, TV.one, TV.isAgg, Dn.part, call97 hF, cmpI, h1]
  · by_cases h2 : b < a
    · simp [d83, c83, zipE, gX0, gX1, gX2, gX3, gX4, gX5, gX6, gX7, gX8, gX9, gXa, gXb, gXc, gXd, gXe, gXf, gXg, gXh, gXi, gXj, gXk, gXl, gXm, gXn, gXo, gXp, gXq, gXr, gXs, gXt, gXu, gXv, gXw, gXx, k_mv, gXy, gXz, gX01, gX11, gX21, gX31, gX41, gX51, gX61, gX71, gX81, gX91, gXa1, gXb1, gXc1, gXd1, gXe1, gXf1, gXg1, gXh1, gXi1, gXj1, gXk1, gXl1, gXm1, gXn1, gXo1, gXp1, gXq1, gXr1, gXs1, gXt1, gXu1, k_mn, k_mx, gXv1, gXw1, gXx1, gXy1, gXz1, gX02, gX12, gX22, gX32, gX42, gX52, gX62, gX72, Dn.setLast, Dn.getLast, evalO, mapO, Dn.get, putE, keepE, TV.one, TV.isAgg, Dn.part, call97 hF, cmpI, h1, h2]
    · simp [d83, c83, zipE, gX0, gX1, gX2, gX3, gX4, gX5, gX6, gX7, gX8, gX9, gXa, gXb, gXc, gXd, gXe, gXf, gXg, gXh, gXi, gXj, gXk, gXl, gXm, gXn, gXo, gXp, gXq, gXr, gXs, gXt, gXu, gXv, gXw, gXx, k_mv, gXy, gXz, gX01, gX11, gX21, gX31, gX41, gX51, gX61, gX71, gX81, gX91, gXa1, gXb1, gXc1, gXd1, gXe1, gXf1, gXg1, gXh1, gXi1, gXj1, gXk1, gXl1, gXm1, gXn1, gXo1, gXp1, gXq1, gXr1, gXs1, gXt1, gXu1, k_mn, k_mx, gXv1, gXw1, gXx1, gXy1, gXz1, gX02, gX12, gX22, gX32, gX42, gX52, gX62, gX72, Dn.setLast, Dn.getLast, evalO, mapO, Dn.get, putE, keepE, TV.one, TV.isAgg, Dn.part, call97 hF, cmpI, h1, h2]

theorem call83 {pg : Pg} (hF : Free pg) (a b : Int) (H : Heap) : callRun pg (den pg) (.pu []) [.fn 83 [] [], .i .i64 a, .i .i64 b] H = some (.i .i64 (cmpI a b), H) :=
  (fn83 hF a b).call (args := [.i .i64 a, .i .i64 b]) (by simp [snapArgs, snap])

theorem l70_round {pg : Pg} (hF : Free pg) {H : Heap} {k : Nat} {xs ys : List TV} {v u : Int} (hx : xs.length = 3) (hy : ys.length = 3) (h1 : xs[k]? = some (.i .i64 v)) (h2 : ys[k]? = some (.i .i64 u)) :
    den pg l70_1 [(0, .bs true 1 xs), (1, .bs true 1 ys), (9, .bs true 1 xs), (10, .i .i64 3), (11, .i .i64 k)] H =
      if cmpI v u = 0 then den pg l70_1 [(0, .bs true 1 xs), (1, .bs true 1 ys), (9, .bs true 1 xs), (10, .i .i64 3), (11, .i .i64 ((k + 1 : Nat) : Int))] H else some ⟨.ret, [(4, .i .i64 (cmpI v u))], H⟩ := by
  have hk : k < 3 := by have := (List.getElem?_eq_some_iff.1 h1).1; omega
  have e1 : ((k : Int) < 3) := by omega
  have e2 : wrapR .i64 ((k : Int) + 1) = .i .i64 ((k : Int) + 1) := gX82 (by omega)
  have e3 : ¬ (3 : Int) ≤ (k : Int) := by omega
  have e4 : ¬ 3 ≤ k := by omega
  by_cases hc : cmpI v u = 0
  · rw [if_pos hc, l70_1, den_loop]
    simp [l70_1, b70_0, gX0, gX1, gX2, gX3, gX4, gX5, gX6, gX7, gX8, gX9, gXa, gXb, gXc, gXd, gXe, gXf, gXg, gXh, gXi, gXj, gXk, gXl, gXm, gXn, gXo, gXp, gXq, gXr, gXs, gXt, gXu, gXv, gXw, gXx, k_mv, gXy, gXz, gX01, gX11, gX21, gX31, gX41, gX51, gX61, gX71, gX81, gX91, gXa1, gXb1, gXc1, gXd1, gXe1, gXf1, gXg1, gXh1, gXi1, gXj1, gXk1, gXl1, gXm1, gXn1, gXo1, gXp1, gXq1, gXr1, gXs1, gXt1, gXu1, k_mn, k_mx, gXv1, gXw1, gXx1, gXy1, gXz1, gX02, gX12, gX22, gX32, gX42, gX52, gX62, gX72, Dn.setLast, Dn.getLast, evalO, mapO, Dn.get, putE, keepE, TV.one, TV.isAgg, Dn.part, lenK, e1, e2, e3, e4, h1, h2, hx, hy, call83 hF, hc]
  · have hc' : (cmpI v u == 0) = false := by simpa using hc
    have hc'' : (cmpI v u != 0) = true := by simp [bne, hc']
    rw [if_neg hc, l70_1, den_loop]
    simp [l70_1, b70_0, gX0, gX1, gX2, gX3, gX4, gX5, gX6, gX7, gX8, gX9, gXa, gXb, gXc, gXd, gXe, gXf, gXg, gXh, gXi, gXj, gXk, gXl, gXm, gXn, gXo, gXp, gXq, gXr, gXs, gXt, gXu, gXv, gXw, gXx, k_mv, gXy, gXz, gX01, gX11, gX21, gX31, gX41, gX51, gX61, gX71, gX81, gX91, gXa1, gXb1, gXc1, gXd1, gXe1, gXf1, gXg1, gXh1, gXi1, gXj1, gXk1, gXl1, gXm1, gXn1, gXo1, gXp1, gXq1, gXr1, gXs1, gXt1, gXu1, k_mn, k_mx, gXv1, gXw1, gXx1, gXy1, gXz1, gX02, gX12, gX22, gX32, gX42, gX52, gX62, gX72, Dn.setLast, Dn.getLast, evalO, mapO, Dn.get, putE, keepE, TV.one, TV.isAgg, Dn.part, lenK, e1, e2, e3, e4, h1, h2, hx, hy, call83 hF, hc'']

theorem l70_end {pg : Pg} {H : Heap} {xs ys : List TV} : den pg l70_1 [(0, .bs true 1 xs), (1, .bs true 1 ys), (9, .bs true 1 xs), (10, .i .i64 3), (11, .i .i64 3)] H = some ⟨.exit 0, [(0, .bs true 1 xs), (1, .bs true 1 ys), (9, .bs true 1 xs), (10, .i .i64 3), (11, .i .i64 3), (12, .b false)], H⟩ := by
  rw [l70_1, den_loop]
  simp [b70_0, gX0, gX1, gX2, gX3, gX4, gX5, gX6, gX7, gX8, gX9, gXa, gXb, gXc, gXd, gXe, gXf, gXg, gXh, gXi, gXj, gXk, gXl, gXm, gXn, gXo, gXp, gXq, gXr, gXs, gXt, gXu, gXv, gXw, gXx, k_mv, gXy, gXz, gX01, gX11, gX21, gX31, gX41, gX51, gX61, gX71, gX81, gX91, gXa1, gXb1, gXc1, gXd1, gXe1, gXf1, gXg1, gXh1, gXi1, gXj1, gXk1, gXl1, gXm1, gXn1, gXo1, gXp1, gXq1, gXr1, gXs1, gXt1, gXu1, k_mn, k_mx, gXv1, gXw1, gXx1, gXy1, gXz1, gX02, gX12, gX22, gX32, gX42, gX52, gX62, gX72, Dn.setLast, Dn.getLast, evalO, mapO, Dn.get, putE, keepE, TV.one, TV.isAgg, Dn.part]

def cmp3 (a b : Line) : Int := if cmpI a.1 b.1 ≠ 0 then cmpI a.1 b.1 else if cmpI a.2.1 b.2.1 ≠ 0 then cmpI a.2.1 b.2.1 else cmpI a.2.2 b.2.2

theorem cmp3_lt (a b : Line) : (cmp3 a b < 0) ↔ lt3 a b = true := by
  simp only [cmp3, cmpI, lt3, Bool.or_eq_true, Bool.and_eq_true, decide_eq_true_eq]
  split <;> split <;> (try split) <;> (try split) <;> omega

theorem fn70 {pg : Pg} (hF : Free pg) (a b : Line) : Fn pg 70 [.bs true 1 [.i .i64 a.1, .i .i64 a.2.1, .i .i64 a.2.2], .bs true 1 [.i .i64 b.1, .i .i64 b.2.1, .i .i64 b.2.2]] (.i .i64 (cmp3 a b)) := by
  obtain ⟨a0, a1, a2⟩ := a
  obtain ⟨b0, b1, b2⟩ := b
  have r0 := l70_round hF (H := []) (k := 0) (xs := [.i .i64 a0, .i .i64 a1, .i .i64 a2]) (ys := [.i .i64 b0, .i .i64 b1, .i .i64 b2]) rfl rfl rfl rfl
  have r1 := l70_round hF (H := []) (k := 1) (xs := [.i .i64 a0, .i .i64 a1, .i .i64 a2]) (ys := [.i .i64 b0, .i .i64 b1, .i .i64 b2]) rfl rfl rfl rfl
  have r2 := l70_round hF (H := []) (k := 2) (xs := [.i .i64 a0, .i .i64 a1, .i .i64 a2]) (ys := [.i .i64 b0, .i .i64 b1, .i .i64 b2]) rfl rfl rfl rfl
  refine .of1 (x := .ret) (e := [(4, .i .i64 (cmp3 (a0, a1, a2) (b0, b1, b2)))]) (H' := []) (hF.S _ _ (by decide)) (d := d70) (by rw [hF.F]; rfl) rfl ?_ (.inl rfl) rfl (snap_int _ _ _ _)
  by_cases h0 : cmpI a0 b0 = 0
  · by_cases h1 : cmpI a1 b1 = 0
    · by_cases h2 : cmpI a2 b2 = 0
      · have hr := (r0.trans ((if_pos h0).trans (r1.trans ((if_pos h1).trans (r2.trans ((if_pos h2).trans l70_end))))))
        simp [d70, c70, zipE, gX0, gX1, gX2, gX3, gX4, gX5, gX6, gX7, gX8, gX9, gXa, gXb, gXc, gXd, gXe, gXf, gXg, gXh, gXi, gXj, gXk, gXl, gXm, gXn, gXo, gXp, gXq, gXr, gXs, gXt, gXu, gXv, gXw, gXx, k_mv, gXy, gXz, gX01, gX11, gX21, gX31, gX41, gX51, gX61, gX71, gX81, gX91, gXa1, gXb1, gXc1, gXd1, gXe1, gXf1, gXg1, gXh1, gXi1, gXj1, gXk1, gXl1, gXm1, gXn1, gXo1, gXp1, gXq1, gXr1, gXs1, gXt1, gXu1, k_mn, k_mx, gXv1, gXw1, gXx1, gXy1, gXz1, gX02, gX12, gX22, gX32, gX42, gX52, gX62, gX72, Dn.setLast, Dn.getLast, evalO, mapO, Dn.get, putE, keepE, TV.one, TV.isAgg, Dn.part, lenK, go_den l70_1]
        simp at hr
        simp [hr, gX0, gX1, gX2, gX3, gX4, gX5, gX6, gX7, gX8, gX9, gXa, gXb, gXc, gXd, gXe, gXf, gXg, gXh, gXi, gXj, gXk, gXl, gXm, gXn, gXo, gXp, gXq, gXr, gXs, gXt, gXu, gXv, gXw, gXx, k_mv, gXy, gXz, gX01, gX11, gX21, gX31, gX41, gX51, gX61, gX71, gX81, gX91, gXa1, gXb1, gXc1, gXd1, gXe1, gXf1, gXg1, gXh1, gXi1, gXj1, gXk1, gXl1, gXm1, gXn1, gXo1, gXp1, gXq1, gXr1, gXs1, gXt1, gXu1, k_mn, k_mx, gXv1, gXw1, gXx1, gXy1, gXz1, gX02, gX12, gX22, gX32, gX42, gX52, gX62, gX72, Dn.setLast, Dn.getLast, evalO, mapO, Dn.get, putE, keepE, TV.one, TV.isAgg, Dn.part, lenK, cmp3, h0, h1, h2]
      · have hr := (r0.trans ((if_pos h0).trans (r1.trans ((if_pos h1).trans (r2.trans (if_neg h2))))))
        simp [d70, c70, zipE, gX0, gX1, gX2, gX3, gX4, gX5, gX6, gX7, gX8, gX9, gXa, gXb, gXc, gXd, gXe, gXf, gXg, gXh, gXi, gXj, gXk, gXl, gXm, gXn, gXo, gXp, gXq, gXr, gXs, gXt, gXu, gXv, gXw, gXx, k_mv, gXy, gXz, gX01, gX11, gX21, gX31, gX41, gX51, gX61, gX71, gX81, gX91, gXa1, gXb1, gXc1, gXd1, gXe1, gXf1, gXg1, gXh1, gXi1, gXj1, gXk1, gXl1, gXm1, gXn1, gXo1, gXp1, gXq1, gXr1, gXs1, gXt1, gXu1, k_mn, k_mx, gXv1, gXw1, gXx1, gXy1, gXz1, gX02, gX12, gX22, gX32, gX42, gX52, gX62, gX72, Dn.setLast, Dn.getLast, evalO, mapO, Dn.get, putE, keepE, TV.one, TV.isAgg, Dn.part, lenK, go_den l70_1]
        simp at hr
        simp [hr, gX0, gX1, gX2, gX3, gX4, gX5, gX6, gX7, gX8, gX9, gXa, gXb, gXc, gXd, gXe, gXf, gXg, gXh, gXi, gXj, gXk, gXl, gXm, gXn, gXo, gXp, gXq, gXr, gXs, gXt, gXu, gXv, gXw, gXx, k_mv, gXy, gXz, gX01, gX11, gX21, gX31, gX41, gX51, gX61, gX71, gX81, gX91, gXa1, gXb1, gXc1, gXd1, gXe1, gXf1, gXg1, gXh1, gXi1, gXj1, gXk1, gXl1, gXm1, gXn1, gXo1, gXp1, gXq1, gXr1, gXs1, gXt1, gXu1, k_mn, k_mx, gXv1, gXw1, gXx1, gXy1, gXz1, gX02, gX12, gX22, gX32, gX42, gX52, gX62, gX72, Dn.setLast, Dn.getLast, evalO, mapO, Dn.get, putE, keepE, TV.one, TV.isAgg, Dn.part, lenK, cmp3, h0, h1, h2]
    · have hr := (r0.trans ((if_pos h0).trans (r1.trans (if_neg h1))))
      simp [d70, c70, zipE, gX0, gX1, gX2, gX3, gX4, gX5, gX6, gX7, gX8, gX9, gXa, gXb, gXc, gXd, gXe, gXf, gXg, gXh, gXi, gXj, gXk, gXl, gXm, gXn, gXo, gXp, gXq, gXr, gXs, gXt, gXu, gXv, gXw, gXx, k_mv, gXy, gXz, gX01, gX11, gX21, gX31, gX41, gX51, gX61, gX71, gX81, gX91, gXa1, gXb1, gXc1, gXd1, gXe1, gXf1, gXg1, gXh1, gXi1, gXj1, gXk1, gXl1, gXm1, gXn1, gXo1, gXp1, gXq1, gXr1, gXs1, gXt1, gXu1, k_mn, k_mx, gXv1, gXw1, gXx1, gXy1, gXz1, gX02, gX12, gX22, gX32, gX42, gX52, gX62, gX72, Dn.setLast, Dn.getLast, evalO, mapO, Dn.get, putE, keepE, TV.one, TV.isAgg, Dn.part, lenK, go_den l70_1]
      simp at hr
      simp [hr, gX0, gX1, gX2, gX3, gX4, gX5, gX6, gX7, gX8, gX9, gXa, gXb, gXc, gXd, gXe, gXf, gXg, gXh, gXi, gXj, gXk, gXl, gXm, gXn, gXo, gXp, gXq, gXr, gXs, gXt, gXu, gXv, gXw, gXx, k_mv, gXy, gXz, gX01, gX11, gX21, gX31, gX41, gX51, gX61, gX71, gX81, gX91, gXa1, gXb1, gXc1, gXd1, gXe1, gXf1, gXg1, gXh1, gXi1, gXj1, gXk1, gXl1, gXm1, gXn1, gXo1, gXp1, gXq1, gXr1, gXs1, gXt1, gXu1, k_mn, k_mx, gXv1, gXw1, gXx1, gXy1, gXz1, gX02, gX12, gX22, gX32, gX42, gX52, gX62, gX72, Dn.setLast, Dn.getLast, evalO, mapO, Dn.get, putE, keepE, TV.one, TV.isAgg, Dn.part, lenK, cmp3, h0, h1]
  · have hr := (r0.trans (if_neg h0))
    simp [d70, c70, zipE, gX0, gX1, gX2, gX3, gX4, gX5, gX6, gX7, gX8, gX9, gXa, gXb, gXc, gXd, gXe, gXf, gXg, gXh, gXi, gXj, gXk, gXl, gXm, gXn, gXo, gXp, gXq, gXr, gXs, gXt, gXu, gXv, gXw, gXx, k_mv, gXy, gXz, gX01, gX11, gX21, gX31, gX41, gX51, gX61, gX71, gX81, gX91, gXa1, gXb1, gXc1, gXd1, gXe1, gXf1, gXg1, gXh1, gXi1, gXj1, gXk1, gXl1, gXm1, gXn1, gXo1, gXp1, gXq1, gXr1, gXs1, gXt1, gXu1, k_mn, k_mx, gXv1, gXw1, gXx1, gXy1, gXz1, gX02, gX12, gX22, gX32, gX42, gX52, gX62, gX72, Dn.setLast, Dn.getLast, evalO, mapO, Dn.get, putE, keepE, TV.one, TV.isAgg, Dn.part, lenK, go_den l70_1]
    simp at hr
    simp [hr, gX0, gX1, gX2, gX3, gX4, gX5, gX6, gX7, gX8, gX9, gXa, gXb, gXc, gXd, gXe, gXf, gXg, gXh, gXi, gXj, gXk, gXl, gXm, gXn, gXo, gXp, gXq, gXr, gXs, gXt, gXu, gXv, gXw, gXx, k_mv, gXy, gXz, gX01, gX11, gX21, gX31, gX41, gX51, gX61, gX71, gX81, gX91, gXa1, gXb1, gXc1, gXd1, gXe1, gXf1, gXg1, gXh1, gXi1, gXj1, gXk1, gXl1, gXm1, gXn1, gXo1, gXp1, gXq1, gXr1, gXs1, gXt1, gXu1, k_mn, k_mx, gXv1, gXw1, gXx1, gXy1, gXz1, gX02, gX12, gX22, gX32, gX42, gX52, gX62, gX72, Dn.setLast, Dn.getLast, evalO, mapO, Dn.get, putE, keepE, TV.one, TV.isAgg, Dn.part, lenK, cmp3, h0]

theorem call70 {pg : Pg} (hF : Free pg) (a b : Line) {H : Heap} {x y : TV} (hx : snap .borrow H 9 x = some (.bs true 1 [.i .i64 a.1, .i .i64 a.2.1, .i .i64 a.2.2])) (hy : snap .borrow H 9 y = some (.bs true 1 [.i .i64 b.1, .i .i64 b.2.1, .i .i64 b.2.2])) :
    callRun pg (den pg) (.pu []) [.fn 70 [] [], x, y] H = some (.i .i64 (cmp3 a b), H) :=
  (fn70 hF a b).call (args := [x, y]) (by simp [snapArgs, hx, hy])

end Go.Proofs.Try.Dn

/-
  The program's Check: its rounds.
-/

namespace Go.Proofs.Try.Dn
open Go.Dn

theorem l47_round {pg : Pg} (hF : Free pg) {H : Heap} {n : Int} {b : Bool} {l : List Line} {i : Nat} {x q : Line} {p : Option Line} (hm : l.length ≤ 40) (hi : l[i]? = some x) (hq : 0 < i → l[i - 1]? = some q) (hw : 0 < i → p = some q) (hw0 : i = 0 → p = none) :
    den pg l47_1 [(0, .i .i64 n), (1, .bs b 3 (l.map lineTV)), (16, .bs b 3 (l.map lineTV)), (17, .i .i64 (l.length : Int)), (18, .i .i64 i)] H =
      if (lineBad n x || worse p x) = true then some ⟨.ret, [(4, .i .i64 20)], H ++ [cl x]⟩ else den pg l47_1 [(0, .i .i64 n), (1, .bs b 3 (l.map lineTV)), (16, .bs b 3 (l.map lineTV)), (17, .i .i64 (l.length : Int)), (18, .i .i64 ((i + 1 : Nat) : Int))] (H ++ [cl x]) := by
  have hl := getLt hi
  have e1 : ((i : Int) < (l.length : Int)) := by omega
  have e2 : wrapR .i64 ((i : Int) + 1) = .i .i64 ((i : Int) + 1) := gX82 (by omega)
  have e3 : wrapR .i64 ((i : Int) - 1) = .i .i64 ((i : Int) - 1) := gX82 (by omega)
  have e4 : ((i : Int) - 1).toNat = i - 1 := by omega
  by_cases d0 : x.1 < 0
  · skip
    rw [if_pos (by simp [lineBad, d0]), l47_1, den_loop]
    simp [l47_1, b47_0, gX0, gX1, gX2, gX3, gX4, gX5, gX6, gX7, gX8, gX9, gXa, gXb, gXc, gXd, gXe, gXf, gXg, gXh, gXi, gXj, gXk, gXl, gXm, gXn, gXo, gXp, gXq, gXr, gXs, gXt, gXu, gXv, gXw, gXx, k_mv, gXy, gXz, gX01, gX11, gX21, gX31, gX41, gX51, gX61, gX71, gX81, gX91, gXa1, gXb1, gXc1, gXd1, gXe1, gXf1, gXg1, gXh1, gXi1, gXj1, gXk1, gXl1, gXm1, gXn1, gXo1, gXp1, gXq1, gXr1, gXs1, gXt1, gXu1, k_mn, k_mx, gXv1, gXw1, gXx1, gXy1, gXz1, gX02, gX12, gX22, gX32, gX42, gX52, gX62, gX72, Dn.setLast, Dn.getLast, evalO, mapO, Dn.get, putE, keepE, TV.one, TV.isAgg, Dn.part, lenK, e1, e2, hi, lineTV, put2, cl, d0]
  by_cases d1 : x.2.2 ≤ x.1
  · skip
    rw [if_pos (by simp [lineBad, d1]), l47_1, den_loop]
    simp [l47_1, b47_0, gX0, gX1, gX2, gX3, gX4, gX5, gX6, gX7, gX8, gX9, gXa, gXb, gXc, gXd, gXe, gXf, gXg, gXh, gXi, gXj, gXk, gXl, gXm, gXn, gXo, gXp, gXq, gXr, gXs, gXt, gXu, gXv, gXw, gXx, k_mv, gXy, gXz, gX01, gX11, gX21, gX31, gX41, gX51, gX61, gX71, gX81, gX91, gXa1, gXb1, gXc1, gXd1, gXe1, gXf1, gXg1, gXh1, gXi1, gXj1, gXk1, gXl1, gXm1, gXn1, gXo1, gXp1, gXq1, gXr1, gXs1, gXt1, gXu1, k_mn, k_mx, gXv1, gXw1, gXx1, gXy1, gXz1, gX02, gX12, gX22, gX32, gX42, gX52, gX62, gX72, Dn.setLast, Dn.getLast, evalO, mapO, Dn.get, putE, keepE, TV.one, TV.isAgg, Dn.part, lenK, e1, e2, hi, lineTV, put2, cl, d0, d1]
  by_cases d2 : n ≤ x.2.2
  · skip
    rw [if_pos (by simp [lineBad, d2]), l47_1, den_loop]
    simp [l47_1, b47_0, gX0, gX1, gX2, gX3, gX4, gX5, gX6, gX7, gX8, gX9, gXa, gXb, gXc, gXd, gXe, gXf, gXg, gXh, gXi, gXj, gXk, gXl, gXm, gXn, gXo, gXp, gXq, gXr, gXs, gXt, gXu, gXv, gXw, gXx, k_mv, gXy, gXz, gX01, gX11, gX21, gX31, gX41, gX51, gX61, gX71, gX81, gX91, gXa1, gXb1, gXc1, gXd1, gXe1, gXf1, gXg1, gXh1, gXi1, gXj1, gXk1, gXl1, gXm1, gXn1, gXo1, gXp1, gXq1, gXr1, gXs1, gXt1, gXu1, k_mn, k_mx, gXv1, gXw1, gXx1, gXy1, gXz1, gX02, gX12, gX22, gX32, gX42, gX52, gX62, gX72, Dn.setLast, Dn.getLast, evalO, mapO, Dn.get, putE, keepE, TV.one, TV.isAgg, Dn.part, lenK, e1, e2, hi, lineTV, put2, cl, d0, d1, d2]
  by_cases d3 : x.2.1 < 0
  · skip
    rw [if_pos (by simp [lineBad, d3]), l47_1, den_loop]
    simp [l47_1, b47_0, gX0, gX1, gX2, gX3, gX4, gX5, gX6, gX7, gX8, gX9, gXa, gXb, gXc, gXd, gXe, gXf, gXg, gXh, gXi, gXj, gXk, gXl, gXm, gXn, gXo, gXp, gXq, gXr, gXs, gXt, gXu, gXv, gXw, gXx, k_mv, gXy, gXz, gX01, gX11, gX21, gX31, gX41, gX51, gX61, gX71, gX81, gX91, gXa1, gXb1, gXc1, gXd1, gXe1, gXf1, gXg1, gXh1, gXi1, gXj1, gXk1, gXl1, gXm1, gXn1, gXo1, gXp1, gXq1, gXr1, gXs1, gXt1, gXu1, k_mn, k_mx, gXv1, gXw1, gXx1, gXy1, gXz1, gX02, gX12, gX22, gX32, gX42, gX52, gX62, gX72, Dn.setLast, Dn.getLast, evalO, mapO, Dn.get, putE, keepE, TV.one, TV.isAgg, Dn.part, lenK, e1, e2, hi, lineTV, put2, cl, d0, d1, d2, d3]
  by_cases d4 : n ≤ x.2.1
  · skip
    rw [if_pos (by simp [lineBad, d4]), l47_1, den_loop]
    simp [l47_1, b47_0, gX0, gX1, gX2, gX3, gX4, gX5, gX6, gX7, gX8, gX9, gXa, gXb, gXc, gXd, gXe, gXf, gXg, gXh, gXi, gXj, gXk, gXl, gXm, gXn, gXo, gXp, gXq, gXr, gXs, gXt, gXu, gXv, gXw, gXx, k_mv, gXy, gXz, gX01, gX11, gX21, gX31, gX41, gX51, gX61, gX71, gX81, gX91, gXa1, gXb1, gXc1, gXd1, gXe1, gXf1, gXg1, gXh1, gXi1, gXj1, gXk1, gXl1, gXm1, gXn1, gXo1, gXp1, gXq1, gXr1, gXs1, gXt1, gXu1, k_mn, k_mx, gXv1, gXw1, gXx1, gXy1, gXz1, gX02, gX12, gX22, gX32, gX42, gX52, gX62, gX72, Dn.setLast, Dn.getLast, evalO, mapO, Dn.get, putE, keepE, TV.one, TV.isAgg, Dn.part, lenK, e1, e2, hi, lineTV, put2, cl, d0, d1, d2, d3, d4]
  by_cases d5 : x.2.1 = x.1
  · have d5b : (x.2.1 == x.1) = true := by simp [d5]
    rw [if_pos (by simp [lineBad, d5]), l47_1, den_loop]
    simp [l47_1, b47_0, gX0, gX1, gX2, gX3, gX4, gX5, gX6, gX7, gX8, gX9, gXa, gXb, gXc, gXd, gXe, gXf, gXg, gXh, gXi, gXj, gXk, gXl, gXm, gXn, gXo, gXp, gXq, gXr, gXs, gXt, gXu, gXv, gXw, gXx, k_mv, gXy, gXz, gX01, gX11, gX21, gX31, gX41, gX51, gX61, gX71, gX81, gX91, gXa1, gXb1, gXc1, gXd1, gXe1, gXf1, gXg1, gXh1, gXi1, gXj1, gXk1, gXl1, gXm1, gXn1, gXo1, gXp1, gXq1, gXr1, gXs1, gXt1, gXu1, k_mn, k_mx, gXv1, gXw1, gXx1, gXy1, gXz1, gX02, gX12, gX22, gX32, gX42, gX52, gX62, gX72, Dn.setLast, Dn.getLast, evalO, mapO, Dn.get, putE, keepE, TV.one, TV.isAgg, Dn.part, lenK, e1, e2, hi, lineTV, put2, cl, d0, d1, d2, d3, d4, d5b]
  by_cases d6 : x.2.1 = x.2.2
  · have d6b : (x.2.1 == x.2.2) = true := by simp [d6]
    rw [if_pos (by simp [lineBad, d6]), l47_1, den_loop]
    simp [l47_1, b47_0, gX0, gX1, gX2, gX3, gX4, gX5, gX6, gX7, gX8, gX9, gXa, gXb, gXc, gXd, gXe, gXf, gXg, gXh, gXi, gXj, gXk, gXl, gXm, gXn, gXo, gXp, gXq, gXr, gXs, gXt, gXu, gXv, gXw, gXx, k_mv, gXy, gXz, gX01, gX11, gX21, gX31, gX41, gX51, gX61, gX71, gX81, gX91, gXa1, gXb1, gXc1, gXd1, gXe1, gXf1, gXg1, gXh1, gXi1, gXj1, gXk1, gXl1, gXm1, gXn1, gXo1, gXp1, gXq1, gXr1, gXs1, gXt1, gXu1, k_mn, k_mx, gXv1, gXw1, gXx1, gXy1, gXz1, gX02, gX12, gX22, gX32, gX42, gX52, gX62, gX72, Dn.setLast, Dn.getLast, evalO, mapO, Dn.get, putE, keepE, TV.one, TV.isAgg, Dn.part, lenK, e1, e2, hi, lineTV, put2, cl, d0, d1, d2, d3, d4, d5, d6b]
  by_cases hp : 0 < i
  · have c4' : (0 : Int) < i := by omega
    have c4'' : (0 : Int) ≤ (i : Int) - 1 := by omega
    have c4a : (1 : Int) ≤ (i : Int) := by omega
    have hc := cmp3_lt q x
    have h70 := call70 (pg := pg) hF q x (H := H ++ [cl x]) (x := .bs b 1 [.i .i64 q.1, .i .i64 q.2.1, .i .i64 q.2.2]) (y := .sl H.length 0 1 false 3 (some 3)) (by simp [snap, SM.flag, mapO]) (by simp [snap, SM.flag, mapO, cl, elems])
    simp only [cl] at h70
    by_cases c5 : lt3 q x = true
    · have c6 : ¬ 0 ≤ cmp3 q x := by have := hc.2 c5; omega
      rw [if_neg (by simp [lineBad, d0, d1, d2, d3, d4, d5, d6, hw hp, worse, c5]), l47_1, den_loop]
      simp [l47_1, b47_0, gX0, gX1, gX2, gX3, gX4, gX5, gX6, gX7, gX8, gX9, gXa, gXb, gXc, gXd, gXe, gXf, gXg, gXh, gXi, gXj, gXk, gXl, gXm, gXn, gXo, gXp, gXq, gXr, gXs, gXt, gXu, gXv, gXw, gXx, k_mv, gXy, gXz, gX01, gX11, gX21, gX31, gX41, gX51, gX61, gX71, gX81, gX91, gXa1, gXb1, gXc1, gXd1, gXe1, gXf1, gXg1, gXh1, gXi1, gXj1, gXk1, gXl1, gXm1, gXn1, gXo1, gXp1, gXq1, gXr1, gXs1, gXt1, gXu1, k_mn, k_mx, gXv1, gXw1, gXx1, gXy1, gXz1, gX02, gX12, gX22, gX32, gX42, gX52, gX62, gX72, Dn.setLast, Dn.getLast, evalO, mapO, Dn.get, putE, keepE, TV.one, TV.isAgg, Dn.part, lenK, e1, e2, hi, lineTV, put2, cl, d0, d1, d2, d3, d4, d5, d6, hp, c4', c4'', c4a, e3, e4, hq hp, c6, slcARun, bounds3, h70]
    · have c6 : 0 ≤ cmp3 q x := by have := mt hc.1 c5; omega
      rw [if_pos (by simp [hw hp, worse, c5]), l47_1, den_loop]
      simp [l47_1, b47_0, gX0, gX1, gX2, gX3, gX4, gX5, gX6, gX7, gX8, gX9, gXa, gXb, gXc, gXd, gXe, gXf, gXg, gXh, gXi, gXj, gXk, gXl, gXm, gXn, gXo, gXp, gXq, gXr, gXs, gXt, gXu, gXv, gXw, gXx, k_mv, gXy, gXz, gX01, gX11, gX21, gX31, gX41, gX51, gX61, gX71, gX81, gX91, gXa1, gXb1, gXc1, gXd1, gXe1, gXf1, gXg1, gXh1, gXi1, gXj1, gXk1, gXl1, gXm1, gXn1, gXo1, gXp1, gXq1, gXr1, gXs1, gXt1, gXu1, k_mn, k_mx, gXv1, gXw1, gXx1, gXy1, gXz1, gX02, gX12, gX22, gX32, gX42, gX52, gX62, gX72, Dn.setLast, Dn.getLast, evalO, mapO, Dn.get, putE, keepE, TV.one, TV.isAgg, Dn.part, lenK, e1, e2, hi, lineTV, put2, cl, d0, d1, d2, d3, d4, d5, d6, hp, c4', c4'', c4a, e3, e4, hq hp, c6, slcARun, bounds3, h70]
  · have c4' : ¬ (0 : Int) < i := by omega
    rw [if_neg (by simp [lineBad, d0, d1, d2, d3, d4, d5, d6, hw0 (by omega), worse]), l47_1, den_loop]
    simp [l47_1, b47_0, gX0, gX1, gX2, gX3, gX4, gX5, gX6, gX7, gX8, gX9, gXa, gXb, gXc, gXd, gXe, gXf, gXg, gXh, gXi, gXj, gXk, gXl, gXm, gXn, gXo, gXp, gXq, gXr, gXs, gXt, gXu, gXv, gXw, gXx, k_mv, gXy, gXz, gX01, gX11, gX21, gX31, gX41, gX51, gX61, gX71, gX81, gX91, gXa1, gXb1, gXc1, gXd1, gXe1, gXf1, gXg1, gXh1, gXi1, gXj1, gXk1, gXl1, gXm1, gXn1, gXo1, gXp1, gXq1, gXr1, gXs1, gXt1, gXu1, k_mn, k_mx, gXv1, gXw1, gXx1, gXy1, gXz1, gX02, gX12, gX22, gX32, gX42, gX52, gX62, gX72, Dn.setLast, Dn.getLast, evalO, mapO, Dn.get, putE, keepE, TV.one, TV.isAgg, Dn.part, lenK, e1, e2, hi, lineTV, put2, cl, d0, d1, d2, d3, d4, d5, d6, hp, c4']


end Go.Proofs.Try.Dn

/-
  The program's Check answers as 'chk' says.
-/

namespace Go.Proofs.Try.Dn
open Go.Dn

theorem l47_stop {pg : Pg} {H : Heap} {n : Int} {t u : TV} {m i : Int} (hi : ¬ i < m) :
    den pg l47_1 [(0, .i .i64 n), (1, t), (16, u), (17, .i .i64 m), (18, .i .i64 i)] H = some ⟨.exit 0, [(0, .i .i64 n), (1, t), (16, u), (17, .i .i64 m), (18, .i .i64 i), (19, .b false)], H⟩ := by
  rw [l47_1, den_loop]
  simp [b47_0, gX0, gX1, gX2, gX3, gX4, gX5, gX6, gX7, gX8, gX9, gXa, gXb, gXc, gXd, gXe, gXf, gXg, gXh, gXi, gXj, gXk, gXl, gXm, gXn, gXo, gXp, gXq, gXr, gXs, gXt, gXu, gXv, gXw, gXx, k_mv, gXy, gXz, gX01, gX11, gX21, gX31, gX41, gX51, gX61, gX71, gX81, gX91, gXa1, gXb1, gXc1, gXd1, gXe1, gXf1, gXg1, gXh1, gXi1, gXj1, gXk1, gXl1, gXm1, gXn1, gXo1, gXp1, gXq1, gXr1, gXs1, gXt1, gXu1, k_mn, k_mx, gXv1, gXw1, gXx1, gXy1, gXz1, gX02, gX12, gX22, gX32, gX42, gX52, gX62, gX72, Dn.setLast, Dn.getLast, evalO, mapO, Dn.get, putE, keepE, TV.one, TV.isAgg, Dn.part, hi]

theorem l47_all {pg : Pg} (hF : Free pg) {n : Int} {b : Bool} {l : List Line} (hm : l.length ≤ 40) : ∀ (k i : Nat) (H : Heap), i + k = l.length →
    ∃ x e H', den pg l47_1 [(0, .i .i64 n), (1, LT b l), (16, LT b l), (17, .i .i64 (l.length : Int)), (18, .i .i64 i)] H = some ⟨x, e, H'⟩ ∧ (x = .exit 0 ∧ chkFrom n (prev l i) (l.drop i) = 0 ∨ x = .ret ∧ e = [(4, .i .i64 20)] ∧ chkFrom n (prev l i) (l.drop i) = 20)
  | 0, i, H, h => by
    refine ⟨_, _, _, l47_stop (by omega), .inl ⟨rfl, ?_⟩⟩
    rw [List.drop_eq_nil_of_le (by omega)]
    unfold chkFrom; rfl
  | k + 1, i, H, h => by
    have hi : i < l.length := by omega
    have hx : l[i]? = some l[i] := List.getElem?_eq_getElem hi
    have hd : l.drop i = l[i] :: l.drop (i + 1) := List.drop_eq_getElem_cons hi
    obtain ⟨q, hq, hw, hw0⟩ : ∃ q, (0 < i → l[i - 1]? = some q) ∧ (0 < i → prev l i = some q) ∧ (i = 0 → prev l i = none) := by
      cases i with
      | zero => exact ⟨(0, 0, 0), fun h => by omega, fun h => by omega, fun _ => rfl⟩
      | succ i =>
        have : l[i]? = some l[i] := List.getElem?_eq_getElem (by omega)
        exact ⟨l[i], fun _ => this, fun _ => this, fun h => by omega⟩
    have hstep := l47_round hF (H := H) (n := n) (b := b) hm hx hq hw hw0
    rw [← LT_ne (LT_getne hx)] at hstep
    rw [hd, chkFrom_cons]
    by_cases ho : (lineBad n l[i] || worse (prev l i) l[i]) = true
    · rw [if_pos ho] at hstep
      exact ⟨_, _, _, hstep, .inr ⟨rfl, rfl, if_pos ho⟩⟩
    · rw [if_neg ho] at hstep
      obtain ⟨x, e, H', h1, h2⟩ := l47_all hF hm k (i + 1) (H ++ [cl l[i]]) (by omega)
      refine ⟨x, e, H', hstep.trans h1, ?_⟩
      rw [if_neg ho]
      have : prev l (i + 1) = some l[i] := hx
      rw [this] at h2
      exact h2

theorem fn47 {pg : Pg} (hF : Free pg) (n : Int) (b : Bool) (l : List Line) : Fn pg 47 [.i .i64 n, LT b l] (.i .i64 (chk n l)) := by
  have hd : pg.F 47 = some d47 := by rw [hF.F]; rfl
  have hS := hF.S 47 [.i .i64 n, LT b l] (by decide)
  by_cases h1 : n < 1
  · refine .of_go hS hd rfl (x := .ret) (e := [(4, .i .i64 1)]) (H' := []) ?_ (.inl rfl) rfl (by simp [snap, chk, h1, tupR])
    simp [d47, c47, zipE, gX0, gX1, gX2, gX3, gX4, gX5, gX6, gX7, gX8, gX9, gXa, gXb, gXc, gXd, gXe, gXf, gXg, gXh, gXi, gXj, gXk, gXl, gXm, gXn, gXo, gXp, gXq, gXr, gXs, gXt, gXu, gXv, gXw, gXx, k_mv, gXy, gXz, gX01, gX11, gX21, gX31, gX41, gX51, gX61, gX71, gX81, gX91, gXa1, gXb1, gXc1, gXd1, gXe1, gXf1, gXg1, gXh1, gXi1, gXj1, gXk1, gXl1, gXm1, gXn1, gXo1, gXp1, gXq1, gXr1, gXs1, gXt1, gXu1, k_mn, k_mx, gXv1, gXw1, gXx1, gXy1, gXz1, gX02, gX12, gX22, gX32, gX42, gX52, gX62, gX72, Dn.setLast, Dn.getLast, evalO, mapO, Dn.get, putE, keepE, TV.one, TV.isAgg, Dn.part, h1]
  by_cases h2 : 16 < n
  · refine .of_go hS hd rfl (x := .ret) (e := [(4, .i .i64 1)]) (H' := []) ?_ (.inl rfl) rfl (by simp [snap, chk, h2, tupR])
    simp [d47, c47, zipE, gX0, gX1, gX2, gX3, gX4, gX5, gX6, gX7, gX8, gX9, gXa, gXb, gXc, gXd, gXe, gXf, gXg, gXh, gXi, gXj, gXk, gXl, gXm, gXn, gXo, gXp, gXq, gXr, gXs, gXt, gXu, gXv, gXw, gXx, k_mv, gXy, gXz, gX01, gX11, gX21, gX31, gX41, gX51, gX61, gX71, gX81, gX91, gXa1, gXb1, gXc1, gXd1, gXe1, gXf1, gXg1, gXh1, gXi1, gXj1, gXk1, gXl1, gXm1, gXn1, gXo1, gXp1, gXq1, gXr1, gXs1, gXt1, gXu1, k_mn, k_mx, gXv1, gXw1, gXx1, gXy1, gXz1, gX02, gX12, gX22, gX32, gX42, gX52, gX62, gX72, Dn.setLast, Dn.getLast, evalO, mapO, Dn.get, putE, keepE, TV.one, TV.isAgg, Dn.part, h1, h2]
  by_cases h3 : 40 < l.length
  · have h3' : (40 : Int) < l.length := by omega
    refine .of_go hS hd rfl (x := .ret) (e := [(4, .i .i64 2)]) (H' := []) ?_ (.inl rfl) rfl (by simp [snap, chk, h1, h2, h3, tupR])
    simp [d47, c47, zipE, gX0, gX1, gX2, gX3, gX4, gX5, gX6, gX7, gX8, gX9, gXa, gXb, gXc, gXd, gXe, gXf, gXg, gXh, gXi, gXj, gXk, gXl, gXm, gXn, gXo, gXp, gXq, gXr, gXs, gXt, gXu, gXv, gXw, gXx, k_mv, gXy, gXz, gX01, gX11, gX21, gX31, gX41, gX51, gX61, gX71, gX81, gX91, gXa1, gXb1, gXc1, gXd1, gXe1, gXf1, gXg1, gXh1, gXi1, gXj1, gXk1, gXl1, gXm1, gXn1, gXo1, gXp1, gXq1, gXr1, gXs1, gXt1, gXu1, k_mn, k_mx, gXv1, gXw1, gXx1, gXy1, gXz1, gX02, gX12, gX22, gX32, gX42, gX52, gX62, gX72, Dn.setLast, Dn.getLast, evalO, mapO, Dn.get, putE, keepE, TV.one, TV.isAgg, Dn.part, h1, h2, LT_len, h3, h3']
  · have h3' : ¬ (40 : Int) < l.length := by omega
    obtain ⟨x, e, H', h4, h5⟩ := l47_all hF (n := n) (b := b) (l := l) (by omega) l.length 0 [] (by omega)
    simp only [List.drop_zero, prev] at h5
    rcases h5 with ⟨rfl, h5⟩ | ⟨rfl, rfl, h5⟩
    · refine .of_go hS hd rfl (x := .ret) (e := [(4, .i .i64 0)]) (H' := H') ?_ (.inl rfl) rfl (by simp [snap, chk, h1, h2, h3, h5, tupR])
      simp [d47, c47, zipE, gX0, gX1, gX2, gX3, gX4, gX5, gX6, gX7, gX8, gX9, gXa, gXb, gXc, gXd, gXe, gXf, gXg, gXh, gXi, gXj, gXk, gXl, gXm, gXn, gXo, gXp, gXq, gXr, gXs, gXt, gXu, gXv, gXw, gXx, k_mv, gXy, gXz, gX01, gX11, gX21, gX31, gX41, gX51, gX61, gX71, gX81, gX91, gXa1, gXb1, gXc1, gXd1, gXe1, gXf1, gXg1, gXh1, gXi1, gXj1, gXk1, gXl1, gXm1, gXn1, gXo1, gXp1, gXq1, gXr1, gXs1, gXt1, gXu1, k_mn, k_mx, gXv1, gXw1, gXx1, gXy1, gXz1, gX02, gX12, gX22, gX32, gX42, gX52, gX62, gX72, Dn.setLast, Dn.getLast, evalO, mapO, Dn.get, putE, keepE, TV.one, TV.isAgg, Dn.part, h1, h2, LT_len, h3, h3', go_den l47_1]
      simp at h4
      simp [h4, gX0, gX1, gX2, gX3, gX4, gX5, gX6, gX7, gX8, gX9, gXa, gXb, gXc, gXd, gXe, gXf, gXg, gXh, gXi, gXj, gXk, gXl, gXm, gXn, gXo, gXp, gXq, gXr, gXs, gXt, gXu, gXv, gXw, gXx, k_mv, gXy, gXz, gX01, gX11, gX21, gX31, gX41, gX51, gX61, gX71, gX81, gX91, gXa1, gXb1, gXc1, gXd1, gXe1, gXf1, gXg1, gXh1, gXi1, gXj1, gXk1, gXl1, gXm1, gXn1, gXo1, gXp1, gXq1, gXr1, gXs1, gXt1, gXu1, k_mn, k_mx, gXv1, gXw1, gXx1, gXy1, gXz1, gX02, gX12, gX22, gX32, gX42, gX52, gX62, gX72, Dn.setLast, Dn.getLast, evalO, mapO, Dn.get, putE, keepE, TV.one, TV.isAgg, Dn.part]
    · refine .of_go hS hd rfl (x := .ret) (e := [(4, .i .i64 20)]) (H' := H') ?_ (.inl rfl) rfl (by simp [snap, chk, h1, h2, h3, h5, tupR])
      simp [d47, c47, zipE, gX0, gX1, gX2, gX3, gX4, gX5, gX6, gX7, gX8, gX9, gXa, gXb, gXc, gXd, gXe, gXf, gXg, gXh, gXi, gXj, gXk, gXl, gXm, gXn, gXo, gXp, gXq, gXr, gXs, gXt, gXu, gXv, gXw, gXx, k_mv, gXy, gXz, gX01, gX11, gX21, gX31, gX41, gX51, gX61, gX71, gX81, gX91, gXa1, gXb1, gXc1, gXd1, gXe1, gXf1, gXg1, gXh1, gXi1, gXj1, gXk1, gXl1, gXm1, gXn1, gXo1, gXp1, gXq1, gXr1, gXs1, gXt1, gXu1, k_mn, k_mx, gXv1, gXw1, gXx1, gXy1, gXz1, gX02, gX12, gX22, gX32, gX42, gX52, gX62, gX72, Dn.setLast, Dn.getLast, evalO, mapO, Dn.get, putE, keepE, TV.one, TV.isAgg, Dn.part, h1, h2, LT_len, h3, h3', go_den l47_1]
      simp at h4
      simp [h4, gX0, gX1, gX2, gX3, gX4, gX5, gX6, gX7, gX8, gX9, gXa, gXb, gXc, gXd, gXe, gXf, gXg, gXh, gXi, gXj, gXk, gXl, gXm, gXn, gXo, gXp, gXq, gXr, gXs, gXt, gXu, gXv, gXw, gXx, k_mv, gXy, gXz, gX01, gX11, gX21, gX31, gX41, gX51, gX61, gX71, gX81, gX91, gXa1, gXb1, gXc1, gXd1, gXe1, gXf1, gXg1, gXh1, gXi1, gXj1, gXk1, gXl1, gXm1, gXn1, gXo1, gXp1, gXq1, gXr1, gXs1, gXt1, gXu1, k_mn, k_mx, gXv1, gXw1, gXx1, gXy1, gXz1, gX02, gX12, gX22, gX32, gX42, gX52, gX62, gX72, Dn.setLast, Dn.getLast, evalO, mapO, Dn.get, putE, keepE, TV.one, TV.isAgg, Dn.part]

end Go.Proofs.Try.Dn

/-
  Where the board or a position is wrong, each function returns what 'open' says.
-/

namespace Go.Proofs.Try.Dn
open Go.Dn

theorem Fn.of2 {pg : Pg} {f : Nat} {xs : List TV} {d : DFun} {x : Ex} {e : Env} {H' : Heap} {vs : List TV} (hS : pg.S f xs = none) (hd : pg.F f = some d) (hl : xs.length = d.np)
    (ho : go pg (den pg) [.c d.body] .normal (zipE xs 0) [] = some ⟨x, e, H'⟩) (hx : x = .ret ∨ x = .normal) (hv : mapO (resRun e H') d.res = some vs) (h2 : 2 ≤ vs.length) (hs : mapO (snap .fin H' 8) vs = some vs) : Fn pg f xs (.tup vs) := by
  refine .of_go hS hd hl ho hx hv ?_
  match vs, h2 with
  | a :: b :: r, _ => simp only [tupR, gXi2, hs, Option.map_some]

theorem LT_call (b : Bool) (l : List Line) (H : Heap) : snap .borrow H 9 (LT b l) = some (LT true l) := snap_LT b H l

def Opn (pg : Pg) (n : Int) (l : List Line) (ps : List TV) (e : Int) : Prop := Fn pg 48 [.i .i64 n, LT true l, .bs true 1 ps] (.i .i64 e)
def Opn0 (pg : Pg) (n : Int) (l : List Line) (e : Int) : Prop := Fn pg 48 [.i .i64 n, LT true l, .nilsl] (.i .i64 e)

theorem Opn.call1 {pg : Pg} {n : Int} {l : List Line} {p e : Int} (h : Opn pg n l [.i .i64 p] e) (id : Nat) (H : Heap) (hi : H[id]? = some (.cells [.i .i64 p] false)) :
    callRun pg (den pg) (.pu []) [.fn 48 [] [], .i .i64 n, LT true l, .sl id 0 1 false 1 (some 1)] H = some (.i .i64 e, H) :=
  Fn.call h (args := [.i .i64 n, LT true l, .sl id 0 1 false 1 (some 1)]) (by simp [snapArgs, sn_i, sn_b, gX92, gXa2, gXb2, gXc2, gXd2, gXe2, gXf2, gXg2, gXh2, gXi2, gXj2, gXk2, mapO, elems, LT_call, hi])

theorem Opn.call2 {pg : Pg} {n : Int} {l : List Line} {p q e : Int} (h : Opn pg n l [.i .i64 p, .i .i64 q] e) (id : Nat) (H : Heap) (hi : H[id]? = some (.cells [.i .i64 p, .i .i64 q] false)) :
    callRun pg (den pg) (.pu []) [.fn 48 [] [], .i .i64 n, LT true l, .sl id 0 1 false 2 (some 2)] H = some (.i .i64 e, H) :=
  Fn.call h (args := [.i .i64 n, LT true l, .sl id 0 1 false 2 (some 2)]) (by simp [snapArgs, sn_i, sn_b, gX92, gXa2, gXb2, gXc2, gXd2, gXe2, gXf2, gXg2, gXh2, gXi2, gXj2, gXk2, mapO, elems, LT_call, hi])

theorem Opn0.call {pg : Pg} {n : Int} {l : List Line} {e : Int} (h : Opn0 pg n l e) (H : Heap) :
    callRun pg (den pg) (.pu []) [.fn 48 [] [], .i .i64 n, LT true l, .nilsl] H = some (.i .i64 e, H) :=
  Fn.call h (args := [.i .i64 n, LT true l, .nilsl]) (by simp [snapArgs, sn_i, sn_b, gX92, gXa2, gXb2, gXc2, gXd2, gXe2, gXf2, gXg2, gXh2, gXi2, gXj2, gXk2, mapO, elems, LT_call])

section
variable {pg : Pg} (hF : Free pg) {n : Int} {l : List Line} {p q e : Int} (he : (e != 0) = true)

theorem call47 {pg : Pg} (hF : Free pg) (n : Int) (b : Bool) (l : List Line) (H : Heap) : callRun pg (den pg) (.pu []) [.fn 47 [] [], .i .i64 n, LT b l] H = some (.i .i64 (chk n l), H) :=
  Fn.call (fn47 hF n true l) (args := [.i .i64 n, LT b l]) (by simp [snapArgs, sn_i, sn_b, gX92, gXa2, gXb2, gXc2, gXd2, gXe2, gXf2, gXg2, gXh2, gXi2, gXj2, gXk2, mapO, elems, LT_call])

include hF
include he

end
end Go.Proofs.Try.Dn

/-
  Lines as cells; own.
-/

namespace Go.Proofs.Try.Dn
open Go.Dn

def flat : List Line → List TV
  | [] => []
  | x :: l => .i .i64 x.1 :: .i .i64 x.2.1 :: .i .i64 x.2.2 :: flat l

theorem flat_cells : ∀ l : List Line, (l.map lineTV).flatMap TV.cells = flat l
  | [] => rfl
  | x :: l => by simp [flat, lineTV, TV.cells, ← flat_cells l]

theorem flat_len : ∀ l : List Line, (flat l).length = l.length * 3
  | [] => rfl
  | x :: l => by simp only [flat, List.length_cons, flat_len l]; omega

theorem flat_all : ∀ l : List Line, (flat l).all TV.one = true
  | [] => rfl
  | x :: l => by simp [flat, TV.one, flat_all l]

theorem flat_append : ∀ l m : List Line, flat (l ++ m) = flat l ++ flat m
  | [], m => rfl
  | x :: l, m => by simp [flat, flat_append l m]

theorem flat_take : ∀ (l : List Line) (k : Nat), (flat l).take (k * 3) = flat (l.take k)
  | [], k => by simp [flat]
  | x :: l, 0 => by simp [flat]
  | x :: l, k + 1 => by
    rw [show (k + 1) * 3 = k * 3 + 1 + 1 + 1 by omega]
    simp only [flat, List.take_succ_cons, flat_take l k]

theorem flat_drop : ∀ (l : List Line) (k : Nat), (flat l).drop (k * 3) = flat (l.drop k)
  | [], k => by simp [flat]
  | x :: l, 0 => by simp [flat]
  | x :: l, k + 1 => by
    rw [show (k + 1) * 3 = k * 3 + 1 + 1 + 1 by omega]
    simp only [flat, List.drop_succ_cons, flat_drop l k]

theorem LT_cases (b : Bool) (l : List Line) : (l = [] ∧ LT b l = .nilsl) ∨ (l ≠ [] ∧ LT b l = .bs b 3 (l.map lineTV)) := by
  cases l with
  | nil => exact .inl ⟨rfl, rfl⟩
  | cons x l => exact .inr ⟨by simp, LT_ne (by simp)⟩

end Go.Proofs.Try.Dn

/-
  PegChecks: the run.
-/

namespace Go.Proofs.Try.Dn
open Go.Dn

theorem free2 : Free pg2 where
  F := rfl
  S f xs h := by
    show S22 f xs = none
    unfold S22
    split
    · exact absurd rfl h
    · rfl

section
variable {pg : Pg} (hF : Free pg) {n : Int} {b : Bool} {l : List Line} {p q e : Int} (he : (e != 0) = true) (H : Heap)
include hF he
end

end Go.Proofs.Try.Dn

