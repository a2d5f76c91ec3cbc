/-
  Running code by equations.
-/
import Derived.Test.YtegihfgibonhpaaM2
import Derived.Test.YtegihfgibonhpaaPegDT
import Derived.WalkKit
import Derived.ChangeSame
import Derived.ProofKit
import Derived.WideKeyArgs
import Derived.Carry
import Derived.OpenShut
import Derived.Test.YtegihfgibonhpaaRows
set_option linter.unusedSimpArgs false
set_option linter.unusedVariables false

namespace Go.Dn

theorem wrapR_i64 {n : Int} (h : -9223372036854775808 ≤ n ∧ n ≤ 9223372036854775807) : wrapR .i64 n = .i .i64 n := by
  unfold wrapR
  rw [show IntKind.wrap .i64 n = n by simp [IntKind.wrap, IntKind.signed, IntKind.bits]; omega]

theorem part_one {c : List TV} {i : Nat} {v : TV} (h : c[i]? = some v) (hv : v.isAgg = false) : Dn.part 1 false i c = some v := by simp [Dn.part, h, hv]

/-- one after the other -/
def thn (p q : Env → Heap → Option Out) : Env → Heap → Option Out := fun e H => (p e H).bind fun o => if o.ex = .normal then q o.env o.H else some o

theorem runC_seq (pg : Pg) (R : Rec) (x y : DC) : runC pg R (.seq x y) = thn (runC pg R x) (runC pg R y) := rfl

theorem thn_assoc (p q r : Env → Heap → Option Out) : thn (thn p q) r = thn p (thn q r) := by
  funext e H
  simp only [thn]
  cases p e H with
  | none => rfl
  | some o =>
    simp only [Option.bind_some]
    by_cases h : o.ex = .normal
    · simp only [h, if_true]
    · simp only [h, if_false, Option.bind_some]

theorem thn_some {p q : Env → Heap → Option Out} {e : Env} {H : Heap} {o : Out} (h : p e H = some o) (hn : o.ex = .normal) : thn p q e H = q o.env o.H := by
  simp only [thn, h, Option.bind_some, hn, if_true]

theorem bodyRun_of {pg : Pg} {f : Nat} {xs : List TV} {H : Heap} {d : DFun} {o : Out} {vs : List TV} (hd : pg.F f = some d) (hl : xs.length = d.np) (ho : runC pg (den pg) d.body (zipE xs 0) H = some o) (hx : ∀ id, o.ex ≠ .exit id) (hv : mapO (resRun o.env o.H) d.res = some vs) :
    bodyRun pg (den pg) f xs H = some (tupR vs, o.H) := by
  rw [← den_eq] at ho
  simp only [bodyRun, hd, Option.bind_some, hl, if_true, ho]
  cases hox : o.ex with
  | exit id => exact absurd hox (hx id)
  | normal =>
    show Option.map _ (mapO (resRun o.env o.H) d.res) = _
    rw [hv]
    rcases vs with _ | ⟨v, _ | ⟨v', vs⟩⟩ <;> rfl
  | ret =>
    show Option.map _ (mapO (resRun o.env o.H) d.res) = _
    rw [hv]
    rcases vs with _ | ⟨v, _ | ⟨v', vs⟩⟩ <;> rfl

theorem bindS {α β : Type} (x : α) (f : α → Option β) : (some x).bind f = f x := rfl
theorem mapS {α β : Type} (x : α) (f : α → β) : (some x).map f = some (f x) := rfl

end Go.Dn

namespace Go.Proofs.Try.Dn
open Go.Dn

def pg0 : Pg := ⟨tab.look, fun _ => none, fun _ _ => none⟩

theorem l24_skip {pg : Pg} {H : Heap} {sid : Nat} {c : List TV} {ag : Bool} {i : Nat} {out : TV} (hi : i < 65536) (hc : H[sid]? = some (.cells c ag)) (hv : c[i]? = some (.b false)) :
    den pg l24_1 [(11, out), (28, .ref sid 0), (29, .i .i64 i)] H = den pg l24_1 [(11, out), (28, .ref sid 0), (29, .i .i64 ((i + 1 : Nat) : Int))] H := by
  have h1 : ((i : Int) < 65536) := by omega
  have h2 : wrapR .i64 ((i : Int) + 1) = .i .i64 ((i + 1 : Nat) : Int) := by rw [wrapR_i64 (by omega)]; rfl
  rw [den_eq]
  simp [l24_1, b24_0, runC, opsRun, operRun, guardRun, evalO, mapO, Dn.get, putE, keepE, dk, binI, bound, part_one hv rfl, h1, hi, hc, h2]

/-- the rest of the round where nothing is there any more -/
theorem l24_tail {pg : Pg} {H : Heap} {sid : Nat} {c : List TV} {ag : Bool} {out : TV} (hc : H[sid]? = some (.cells c ag)) : ∀ (k i : Nat), i + k = 65536 → (∀ j, i ≤ j → j < 65536 → c[j]? = some (.b false)) →
    den pg l24_1 [(11, out), (28, .ref sid 0), (29, .i .i64 i)] H = some ⟨.exit 0, [(11, out), (28, .ref sid 0), (29, .i .i64 65536), (30, .b false)], H⟩
  | 0, i, h, _ => by
    obtain rfl : i = 65536 := by omega
    rw [den_eq]
    simp [l24_1, b24_0, runC, opsRun, operRun, guardRun, evalO, mapO, Dn.get, putE, keepE, dk, binI]
  | k + 1, i, h, hv => by
    rw [l24_skip (by omega) hc (hv i (Nat.le_refl _) (by omega))]
    exact l24_tail hc k (i + 1) (by omega) fun j a b => hv j (by omega) b

theorem l24_take0 {pg : Pg} {H : Heap} {sid : Nat} {c : List TV} {ag : Bool} {i : Nat} (hi : i < 65536) (hc : H[sid]? = some (.cells c ag)) (hv : c[i]? = some (.b true)) :
    den pg l24_1 [(11, .nilsl), (28, .ref sid 0), (29, .i .i64 i)] H = den pg l24_1 [(11, .sl (H.length + 1) 0 1 false 1 none), (28, .ref sid 0), (29, .i .i64 ((i + 1 : Nat) : Int))] (H ++ [.cells [.i .i64 i] false, .cells [.i .i64 i] false]) := by
  have h1 : ((i : Int) < 65536) := by omega
  have h2 : wrapR .i64 ((i : Int) + 1) = .i .i64 ((i + 1 : Nat) : Int) := by rw [wrapR_i64 (by omega)]; rfl
  rw [den_eq]
  simp [l24_1, b24_0, runC, opsRun, operRun, guardRun, evalO, mapO, Dn.get, putE, keepE, dk, binI, bound, part_one hv rfl, h1, hi, hc, h2, fillP, repl, TV.cells, TV.one, put2, appRun, lenOf, flatOf]

theorem l24_take1 {pg : Pg} {H : Heap} {sid id : Nat} {c : List TV} {ag : Bool} {i : Nat} {x : TV} (hx : x.one = true) (hi : i < 65536) (hc : H[sid]? = some (.cells c ag)) (hv : c[i]? = some (.b true)) (hd : H[id]? = some (.cells [x] false)) :
    den pg l24_1 [(11, .sl id 0 1 false 1 none), (28, .ref sid 0), (29, .i .i64 i)] H =
      den pg l24_1 [(11, .sl (H.length + 1) 0 1 false 2 none), (28, .ref sid 0), (29, .i .i64 ((i + 1 : Nat) : Int))] ((H ++ [AObj.cells [.i .i64 i] false]).set id .dead ++ [AObj.cells [x, .i .i64 i] false]) := by
  have h1 : ((i : Int) < 65536) := by omega
  have h2 : wrapR .i64 ((i : Int) + 1) = .i .i64 ((i + 1 : Nat) : Int) := by rw [wrapR_i64 (by omega)]; rfl
  have hlt := (List.getElem?_eq_some_iff.1 hd).1
  have hd' : (H ++ [AObj.cells [.i .i64 (i : Int)] false])[id]? = some (.cells [x] false) := by rw [List.getElem?_append_left hlt]; exact hd
  rw [den_eq]
  simp [l24_1, b24_0, runC, opsRun, operRun, guardRun, evalO, mapO, Dn.get, putE, keepE, dk, binI, bound, part_one hv rfl, h1, hi, hc, h2, fillP, repl, TV.cells, TV.one, put2, appRun, lenOf, flatOf, hd']

end Go.Proofs.Try.Dn

namespace Go.Proofs.Try.Dn
open Go.Dn

/-- the line of awake, by value -/
def line1 : TV := .bs true 3 [.agg [.i .i64 0, .i .i64 1, .i .i64 2]]

/-- Reached up to its loop -/
def pre24c : DC := match c24 with | .seq a (.seq b (.seq c (.seq d (.seq (.seq e _) _)))) => .seq a (.seq b (.seq c (.seq d e))) | _ => .bad
def post24c : DC := match c24 with | .seq _ (.seq _ (.seq _ (.seq _ (.seq _ r)))) => r | _ => .bad
theorem c24_eq (pg : Pg) (R : Rec) : runC pg R c24 = thn (thn (runC pg R pre24c) (runC pg R (.block 0 l24_1))) (runC pg R post24c) := by
  simp only [c24, pre24c, post24c, runC_seq, thn_assoc]
def pre24 : Option Out := runC pg0 (denN pg0 200) pre24c [(0, .i .i64 3), (1, line1), (2, .i .i64 3)] []
def out24 : Out := pre24.getD ⟨.ret, [], []⟩
def seen24 : List TV := match out24.H[1]? with | some (AObj.cells c _) => c | _ => []

set_option maxRecDepth 100000 in
theorem pre24_some : pre24 = some out24 := by
  have h : pre24.isSome = true := by kernel_rfl
  unfold out24
  cases hp : pre24 with
  | none => rw [hp] at h; cases h
  | some o => rfl

theorem out24_ex : out24.ex = .normal := by kernel_rfl
theorem out24_env : out24.env = [(11, .nilsl), (28, .ref 1 0), (29, .i .i64 0)] := by kernel_rfl
theorem out24_seen : out24.H[1]? = some (AObj.cells seen24 true) := by kernel_rfl
theorem seen24_0 : seen24[0]? = some (.b false) := by kernel_rfl
theorem seen24_1 : seen24[1]? = some (.b false) := by kernel_rfl
theorem seen24_2 : seen24[2]? = some (.b false) := by kernel_rfl
theorem seen24_3 : seen24[3]? = some (.b true) := by kernel_rfl
theorem seen24_4 : seen24[4]? = some (.b true) := by kernel_rfl
theorem seen24_drop : seen24.drop 5 = List.replicate 65531 (.b false) := by kernel_rfl

theorem seen24_tail (j : Nat) (h : 5 ≤ j) (h' : j < 65536) : seen24[j]? = some (.b false) := by
  have := congrArg (fun l : List TV => l[j - 5]?) seen24_drop
  simp only [List.getElem?_drop, List.getElem?_replicate] at this
  rw [show 5 + (j - 5) = j by omega, if_pos (by omega)] at this
  exact this

/-- Reached(3, {{0, 1, 2}}, 3) -/
theorem run24 : ∃ H1, bodyRun pg0 (den pg0) 24 [.i .i64 3, line1, .i .i64 3] [] = some (.tup [.sl (out24.H.length + 3) 0 1 false 2 none, .i .i64 0], H1) ∧ H1[out24.H.length + 3]? = some (.cells [.i .i64 3, .i .i64 4] false) := by
  have hl : 1 < out24.H.length := (List.getElem?_eq_some_iff.1 out24_seen).1
  have h0 := l24_skip (pg := pg0) (out := .nilsl) (i := 0) (by omega) out24_seen seen24_0
  have h1 := l24_skip (pg := pg0) (out := .nilsl) (i := 1) (by omega) out24_seen seen24_1
  have h2 := l24_skip (pg := pg0) (out := .nilsl) (i := 2) (by omega) out24_seen seen24_2
  have h3 := l24_take0 (pg := pg0) (i := 3) (by omega) out24_seen seen24_3
  have hs3 : (out24.H ++ [AObj.cells [.i .i64 ((3 : Nat) : Int)] false, AObj.cells [.i .i64 ((3 : Nat) : Int)] false])[1]? = some (.cells seen24 true) := by rw [List.getElem?_append_left hl]; exact out24_seen
  have hd3 : (out24.H ++ [AObj.cells [.i .i64 ((3 : Nat) : Int)] false, AObj.cells [.i .i64 ((3 : Nat) : Int)] false])[out24.H.length + 1]? = some (.cells [.i .i64 ((3 : Nat) : Int)] false) := by
    rw [List.getElem?_append_right (by omega)]; simp
  have h4 := l24_take1 (pg := pg0) (i := 4) (x := .i .i64 ((3 : Nat) : Int)) rfl (by omega) hs3 seen24_4 hd3
  generalize hH4 : ((out24.H ++ [AObj.cells [.i .i64 ((3 : Nat) : Int)] false, AObj.cells [.i .i64 ((3 : Nat) : Int)] false]) ++ [AObj.cells [.i .i64 ((4 : Nat) : Int)] false]).set (out24.H.length + 1) .dead ++ [AObj.cells [.i .i64 ((3 : Nat) : Int), .i .i64 ((4 : Nat) : Int)] false] = H4 at h4
  have hs4 : H4[1]? = some (.cells seen24 true) := by
    subst hH4
    rw [List.getElem?_append_left (by simp <;> omega), List.getElem?_set_ne (by omega), List.getElem?_append_left (by simp <;> omega)]
    exact hs3
  have hd4 : H4[out24.H.length + 3]? = some (.cells [.i .i64 3, .i .i64 4] false) := by
    subst hH4
    rw [List.getElem?_append_right (by simp)]
    simp
  have h5 := l24_tail (pg := pg0) (out := .sl (out24.H.length + 3) 0 1 false 2 none) hs4 65531 5 rfl seen24_tail
  have hloop : den pg0 l24_1 out24.env out24.H = some ⟨.exit 0, [(11, .sl (out24.H.length + 3) 0 1 false 2 none), (28, .ref 1 0), (29, .i .i64 65536), (30, .b false)], H4⟩ := by
    rw [out24_env, ← h5]
    refine h0.trans (h1.trans (h2.trans (h3.trans ?_)))
    simpa using h4
  refine ⟨H4, ?_, hd4⟩
  have hpre := runC_mono (denN_den 200) _ _ _ _ pre24_some
  have hblk : runC pg0 (den pg0) (.block 0 l24_1) out24.env out24.H = some ⟨.normal, [(11, .sl (out24.H.length + 3) 0 1 false 2 none), (28, .ref 1 0), (29, .i .i64 65536), (30, .b false)], H4⟩ := by
    have : runC pg0 (den pg0) l24_1 out24.env out24.H = _ := (den_eq _ _ _).symm.trans hloop
    simp [runC, this]
  have hall : runC pg0 (den pg0) c24 [(0, .i .i64 3), (1, line1), (2, .i .i64 3)] [] = some ⟨.ret, [(6, .sl (out24.H.length + 3) 0 1 false 2 none), (7, .i .i64 0)], H4⟩ := by
    rw [c24_eq, thn_some ((thn_some hpre out24_ex).trans hblk) rfl]
    simp [post24c, c24, runC, opsRun, operRun, guardRun, evalO, mapO, Dn.get, putE, keepE, dk]
  have := bodyRun_of (pg := pg0) (f := 24) (d := d24) (xs := [.i .i64 3, line1, .i .i64 3]) (by rfl) rfl hall (by simp) (vs := [.sl (out24.H.length + 3) 0 1 false 2 none, .i .i64 0]) (by simp [d24, mapO, resRun, Dn.get])
  exact this

end Go.Proofs.Try.Dn

namespace Go.Proofs.Try.Dn
open Go.Dn

theorem mixed : Try.prog.follows .mixedOrders = true := by kernel_rfl

theorem good0 : CodeOk Try.prog pg0 0 (den pg0) := den_sound mixed (Tab.fns tab_ok) (SumOk.none _ _)

def S24 : Nat → List TV → Option TV
  | 24, [.i .i64 3, .bs true 3 [.agg [.i .i64 0, .i .i64 1, .i .i64 2]], .i .i64 3] => some (.tup [.bs false 1 [.i .i64 3, .i .i64 4], .i .i64 0])
  | _, _ => none

def pg1 : Pg := ⟨tab.look, fun _ => none, S24⟩

theorem sum1 : SumOk Try.prog pg1 0 := by
  intro f xs r h
  have h' : S24 f xs = some r := h
  unfold S24 at h'
  split at h'
  · injection h' with h'
    subst h'
    obtain ⟨H1, h1, h2⟩ := run24
    refine ⟨pg0, den pg0, rfl, good0, Tab.fns tab_ok, _, H1, h1, ?_⟩
    simp [snap, mapO, h2, elems]
  · cases h'

theorem good1 : CodeOk Try.prog pg1 0 (den pg1) := den_sound mixed (Tab.fns tab_ok) sum1

def yes : Option (TV × Heap) → Bool
  | some (.b true, _) => true
  | _ => false

theorem yes_iff {o : Option (TV × Heap)} (h : yes o = true) : ∃ H, o = some (.b true, H) := by
  unfold yes at h
  split at h
  · exact ⟨_, rfl⟩
  · cases h

theorem awake1 : yes (bodyRun pg1 (denN pg1 300) 22 [] []) = true := by kernel_rfl

/-- awake's answer, known -/
def S22 : Nat → List TV → Option TV
  | 22, [] => some (.b true)
  | _, _ => none

def pg2 : Pg := ⟨tab.look, fun _ => none, S22⟩

theorem sum2 : SumOk Try.prog pg2 0 := by
  intro f xs r h
  have h' : S22 f xs = some r := h
  unfold S22 at h'
  split at h'
  · injection h' with h'
    subst h'
    obtain ⟨H, hH⟩ := yes_iff awake1
    exact ⟨pg1, den pg1, rfl, good1, Tab.fns tab_ok, _, H, Ans.of hH, by simp [snap]⟩
  · cases h'

theorem good2 : CodeOk Try.prog pg2 0 (den pg2) := den_sound mixed (Tab.fns tab_ok) sum2

end Go.Proofs.Try.Dn

/-
  A law's row: what is asked of its answer, where nothing that was there has turned.
-/

namespace Go.Dn
open Go.ChangeShapes Go.WideShapes Go.ChangeAt Go.RowKit
variable {P : Program} {H : Type} {enc : TypeId × Value → H}

theorem row_post {f : Func} {s : ChangeSpec} {apart fresh handsOn again : Bool} {W W' : World} {args : Array Value} {v : Value} {ds gs : List (DataW H)} {before pa pv : List MemPlace}
    (hW : DataW.Whole enc P f.params.toList s.vars apart W args.toList ds gs before)
    (hres : ∀ (b : Nat) (sp : Nat → Bool) (hd : Bool), DataW.TrodAll enc P W' b sp hd f.resultTypes.toList (v.resultList f.resultTypes.size) (s.fn H (ds ++ gs)).results [])
    (hargs : ∀ sp : Nat → Bool, (∀ p ∈ before, sp p.block = true) → DataW.TrodAll enc P W' 0 sp true f.params.toList args.toList (s.fn H (ds ++ gs)).args pa)
    (hvars : ∀ sp : Nat → Bool, (∀ p ∈ before, sp p.block = true) → DataW.TrodVars enc P W' sp s.vars (s.fn H (ds ++ gs)).vars pv)
    (hps : before = pa ++ pv) (hb : Below W.heap.size W W')
    (hok : ∀ (j : Nat) (t : TypeId) (r : Value), f.resultTypes[j]? = some t → (v.resultList f.resultTypes.size)[j]? = some r → Value.okWide P W' .any 0 t r) :
    s.post enc P f apart fresh handsOn again W args v W' := by
  have hold : ∀ p ∈ before, (fun b => decide (b < W.heap.size)) p.block = true := fun p hp => by simpa using hW.lt p hp
  have hlt : ∀ p ∈ before, p.block < W.heap.size := hW.lt
  refine ⟨ds, gs, before, [], pa, pv, hW, hres _ _ _, hargs _ hold, hvars _ hold, World.keptBut_mono (fun p hp => ⟨hp, ?_⟩) (hb.frame (· ∈ before)), fun _ => ?_⟩
  · rw [hps, List.mem_append] at hp
    exact Or.inr hp
  · obtain ⟨_, _, _, _, _, hz, hn⟩ := hW
    refine ⟨hok, _, _, ([] ++ pa) ++ pv, ⟨[] ++ pa, pv, trodAll_append (hargs _ (fun _ _ => rfl)) (hres _ _ _), hvars _ (fun _ _ => rfl), rfl, ?_, ?_⟩, ?_⟩
    · intro b off hp
      have hp' : MemPlace.cell b off ∈ before := by rw [hps]; simpa using hp
      rw [hb.frozen (p := ⟨b, off, none⟩) (hlt _ hp')]
      exact hz b off hp'
    · intro ha
      have := hn ha
      rw [hps] at this
      simpa using this
    · intro p hp _
      rw [hps]
      simpa using hp

end Go.Dn

/-
  Arguments by value: what a reading of the arguments says of them.
-/

namespace Go.Dn
open Go.ChangeShapes Go.WideShapes Go.ChangeAt Go.RowKit

section
variable {H : Type} {enc : TypeId × Value → H} {P : Program} {w : World} {sp : Nat → Bool} {held : Bool}

/-- cells of a type read as such and such values -/
def Reads (enc : TypeId × Value → H) (P : Program) (w : World) (sp : Nat → Bool) (held : Bool) (t : TypeId) (Q : List TV → Prop) : Prop :=
  ∀ fuel cs x, DataW.trod enc P w 0 sp held fuel t cs = some x → ∃ ts, SeesAll w ts cs ∧ Q ts

def okI (k : IntKind) (n : Int) : Prop := (Lit.int k n).wf = true

theorem reads_int {t : TypeId} {k : IntKind} (ht : P.underlying t = some (.int k)) : Reads enc P w sp held t fun ts => ∃ n, ts = [.i k n] ∧ okI k n := by
  intro fuel cs x h
  cases fuel with
  | zero => simp [DataW.trod] at h
  | succ fuel =>
    simp only [DataW.trod, ht] at h
    split at h <;> simp_all
    rename_i k' n _ 
    exact ⟨[.i _ n], .cons _ _ _ _ (.i _ _) .nil, n, rfl, h.1.2⟩

theorem reads_bool {t : TypeId} (ht : P.underlying t = some .bool) : Reads enc P w sp held t fun ts => ∃ b, ts = [.b b] := by
  intro fuel cs x h
  cases fuel with
  | zero => simp [DataW.trod] at h
  | succ fuel =>
    simp only [DataW.trod, ht] at h
    rcases cs with _ | ⟨c, _ | ⟨d, cs⟩⟩
    · cases h
    · cases c <;> first | (cases h; done) | exact ⟨_, .cons _ _ _ _ (.b _) .nil, _, rfl⟩
    · cases c <;> cases h

theorem mapM_all {α β : Type} {f : α → Option β} : ∀ {l : List α} {ys : List β}, l.mapM f = some ys → ∀ a, a ∈ l → ∃ y, f a = some y
  | [], _, _, a, ha => by cases ha
  | b :: l, ys, h, a, ha => by
    simp only [List.mapM_cons, Option.bind_eq_bind, Option.bind_eq_some_iff] at h
    obtain ⟨y, hy, zs, hz, _⟩ := h
    rcases List.mem_cons.1 ha with rfl | ha
    · exact ⟨y, hy⟩
    · exact mapM_all hz a ha

/-- chunks of cells, one behind the other -/
theorem chunks_see {s : Nat} {Q : List TV → Prop} {cs : List Value} : ∀ n : Nat, n * s ≤ cs.length → (∀ i, i < n → ∃ ts, SeesAll w ts ((cs.drop (i * s)).take s) ∧ Q ts) →
    ∃ l : List (List TV), l.length = n ∧ SeesAll w l.flatten (cs.take (n * s)) ∧ ∀ x, x ∈ l → Q x
  | 0, _, _ => ⟨[], rfl, by simpa using VsRel.nil, fun x hx => by cases hx⟩
  | n + 1, hl, h => by
    rw [Nat.succ_mul] at hl
    obtain ⟨l, h1, h2, h3⟩ := chunks_see n (by omega) fun i hi => h i (by omega)
    obtain ⟨ts, h4, h5⟩ := h n (by omega)
    refine ⟨l ++ [ts], by simp [h1], ?_, fun x hx => ?_⟩
    · have := h2.append h4
      rw [List.flatten_append, Nat.succ_mul, List.take_add]
      simpa using this
    · rcases List.mem_append.1 hx with hx | hx
      · exact h3 x hx
      · simp at hx; subst hx; exact h5

theorem reads_arr {t e : TypeId} {n : Nat} {Q : List TV → Prop} (ht : P.underlying t = some (.array n e)) (hc : P.cellsOf t = n * P.cellsOf e) (he : Reads enc P w sp held e Q) :
    Reads enc P w sp held t fun ts => ∃ l : List (List TV), l.length = n ∧ ts = l.flatten ∧ ∀ x, x ∈ l → Q x := by
  intro fuel cs x h
  cases fuel with
  | zero => simp [DataW.trod] at h
  | succ fuel =>
    simp only [DataW.trod, ht] at h
    split at h <;> try (cases h; done)
    rename_i hl
    simp only [Option.map_eq_some_iff] at h
    obtain ⟨xs, hxs, _⟩ := h
    obtain ⟨l, h1, h2, h3⟩ := chunks_see (w := w) (Q := Q) (s := P.cellsOf e) (cs := cs) n (by omega) fun i hi => by
      obtain ⟨y, hy⟩ := mapM_all hxs i (by simpa using hi)
      exact he _ _ _ hy
    rw [List.take_of_length_le (by omega)] at h2
    exact ⟨l.flatten, h2, l, h1, rfl, h3⟩

theorem mem_chunks {a : Addr} {s : Nat} {Q : List TV → Prop} (hs : 0 < s) : ∀ n : Nat, 0 < n → (∀ i, i < n → ∃ cs ts, w.cells? 0 (a.add (i * s)) s = some cs ∧ SeesAll w ts cs ∧ Q ts) →
    ∃ (l : List (List TV)) (us : List Value), l.length = n ∧ us.length = n * s ∧ SeesAll w l.flatten us ∧ (∀ x, x ∈ l → Q x ∧ x.length = s) ∧ MemAt w a.block a.off us ∧ a.spot = none
  | 0, h0, _ => absurd h0 (by omega)
  | n + 1, _, h => by
    have cell : ∀ (i : Nat) (cs : List Value), w.cells? 0 (a.add (i * s)) s = some cs → cs.length = s ∧ ∀ j, j < s → w.cell? ((a.add (i * s)).add j) = cs[j]? := fun i cs hc => by
      have := World.cells?_some hc
      exact ⟨this.2.1, this.2.2⟩
    have hspot : a.spot = none := by
      obtain ⟨cs, ts, h1, _, _⟩ := h 0 (by omega)
      obtain ⟨hl, hcell⟩ := cell 0 cs h1
      have h2 := hcell 0 hs
      rw [show (a.add (0 * s)).add 0 = a by simp [Addr.add]] at h2
      unfold World.cell? at h2
      cases hsp : a.spot with
      | none => rfl
      | some q =>
        rw [List.getElem?_eq_getElem (by omega)] at h2
        split at h2
        · rw [hsp] at h2; simp at h2
        · cases h2
    obtain ⟨cs, ts, h1, h2, h3⟩ := h n (by omega)
    obtain ⟨hl, hcell⟩ := cell n cs h1
    have hmem : MemAt w a.block (a.off + n * s) cs := by
      intro j u hu
      have hj : j < s := by rw [← hl]; exact (List.getElem?_eq_some_iff.1 hu).1
      have := hcell j hj
      rw [hu] at this
      rw [← this]
      congr 1
      obtain ⟨b, o, q⟩ := a
      simp only at hspot
      subst hspot
      simp only [Addr.add]
      split <;> split <;> simp_all <;> omega
    rcases Nat.eq_zero_or_pos n with rfl | hn
    · refine ⟨[ts], cs, rfl, by simpa using hl, by simpa using h2, fun x hx => ?_, by simpa using hmem, hspot⟩
      simp at hx; subst hx; exact ⟨h3, by rw [h2.length]; exact hl⟩
    · obtain ⟨l, us, k1, k2, k3, k4, k5, _⟩ := mem_chunks hs n hn fun i hi => h i (by omega)
      refine ⟨l ++ [ts], us ++ cs, by simp [k1], by rw [List.length_append, k2, hl, Nat.succ_mul], by rw [List.flatten_append]; simpa using k3.append h2, fun x hx => ?_, fun j u hu => ?_, hspot⟩
      · rcases List.mem_append.1 hx with hx | hx
        · exact k4 x hx
        · simp at hx; subst hx; exact ⟨h3, by rw [h2.length]; exact hl⟩
      · rw [List.getElem?_append] at hu
        split at hu
        · exact k5 j u hu
        · rename_i hge
          have := hmem (j - us.length) u hu
          rw [k2] at this
          rw [show a.off + j = a.off + n * s + (j - n * s) by rw [k2] at hge; omega]
          exact this

theorem reads_slice {t e : TypeId} {Q : List TV → Prop} {mk : List TV → TV} (ht : P.underlying t = some (.slice e)) (hs : 0 < P.cellsOf e) (he : Reads enc P w sp held e Q) (hmk : ∀ ts, Q ts → (mk ts).cells = ts) :
    Reads enc P w sp held t fun ts => ts = [.nilsl] ∨ ∃ l : List (List TV), ts = [.bs false (P.cellsOf e) (l.map mk)] ∧ l.length ≤ maxLen ∧ ∀ x, x ∈ l → Q x ∧ x.length = P.cellsOf e := by
  intro fuel cs x h
  cases fuel with
  | zero => simp [DataW.trod] at h
  | succ fuel =>
    simp only [DataW.trod, ht] at h
    rcases cs with _ | ⟨c, _ | ⟨d, cs⟩⟩
    · cases h
    · cases c <;> try (cases h; done)
      rename_i a len cap
      cases a with
      | none =>
        cases len <;> cases cap <;> try (cases h; done)
        exact ⟨[.nilsl], .cons _ _ _ _ .nilsl .nil, .inl rfl⟩
      | some a =>
        simp only at h
        split at h <;> try (cases h; done)
        rename_i hc
        simp only [Option.bind_eq_some_iff] at h
        obtain ⟨xs, hxs, _⟩ := h
        rcases Nat.eq_zero_or_pos len with rfl | hpos
        · exact ⟨[.bs false (P.cellsOf e) []], .cons _ _ _ _ (.bs0 _ _ _ _) .nil, .inr ⟨[], rfl, by simp, fun x hx => by cases hx⟩⟩
        · obtain ⟨l, us, k1, k2, k3, k4, k5, k6⟩ := mem_chunks (w := w) (a := a) (Q := Q) hs len hpos fun i hi => by
            obtain ⟨y, hy⟩ := mapM_all hxs i (by simpa using hi)
            simp only [Option.bind_eq_some_iff] at hy
            obtain ⟨cs, hcs, hy⟩ := hy
            obtain ⟨ts, h1, h2⟩ := he _ _ _ hy
            exact ⟨cs, ts, hcs, h1, h2⟩
          have hfl : (l.map mk).flatMap TV.cells = l.flatten := by
            clear k1 k3
            induction l with
            | nil => rfl
            | cons x l ih =>
              simp only [List.map_cons, List.flatMap_cons, List.flatten_cons]
              rw [hmk x (k4 x (by simp)).1, ih fun y hy => k4 y (by simp [hy])]
          have hv : Sees w (.bs false (P.cellsOf e) (l.map mk)) (.slice (some ⟨a.block, a.off, none⟩) (l.map mk).length cap) := by
            refine .bs false _ _ a.block a.off cap us (by rw [hfl]; exact k3) (fun y hy => ?_) k5 (fun _ => ⟨fun x => x, fun _ x => x⟩) (by simp [k1]; omega)
            obtain ⟨x, hx, rfl⟩ := List.mem_map.1 hy
            rw [hmk x (k4 x hx).1]; exact (k4 x hx).2
          have ha : (⟨a.block, a.off, none⟩ : Addr) = a := by obtain ⟨b, o, q⟩ := a; simp only at k6; subst k6; rfl
          rw [ha] at hv
          simp only [List.length_map, k1] at hv
          exact ⟨_, .cons _ _ _ _ hv .nil, .inr ⟨l, rfl, by omega, k4⟩⟩
    · cases c <;> first
        | (cases h; done)
        | (rename_i a l q; cases a <;> first
            | (cases h; done)
            | (cases l <;> cases q <;> cases h))

/-- fields one behind the other -/
def Tile (P : Program) : List Field → Nat → Nat → Prop
  | [], o, n => o = n
  | f :: fs, o, n => f.offset = o ∧ Tile P fs (o + P.cellsOf f.type) n

def AllQ : List (List TV → Prop) → List (List TV) → Prop
  | [], [] => True
  | Q :: Qs, l :: ls => Q l ∧ AllQ Qs ls
  | _, _ => False

def ReadsAll (enc : TypeId × Value → H) (P : Program) (w : World) (sp : Nat → Bool) (held : Bool) : List Field → List (List TV → Prop) → Prop
  | [], [] => True
  | f :: fs, Q :: Qs => Reads enc P w sp held f.type Q ∧ ReadsAll enc P w sp held fs Qs
  | _, _ => False

theorem Tile.le : ∀ {fs : List Field} {o n : Nat}, Tile P fs o n → o ≤ n
  | [], o, n, h => Nat.le_of_eq h
  | f :: fs, o, n, h => by have := Tile.le h.2; omega

theorem fields_see {cs : List Value} {fuel : Nat} : ∀ {fs : List Field} {Qs : List (List TV → Prop)} {o : Nat} {xs : List (DataW H × List MemPlace)}, Tile P fs o cs.length → ReadsAll enc P w sp held fs Qs →
    (fs.mapM fun f => DataW.trod enc P w 0 sp held fuel f.type ((cs.drop f.offset).take (P.cellsOf f.type))) = some xs → ∃ ls, AllQ Qs ls ∧ SeesAll w ls.flatten (cs.drop o)
  | [], [], o, xs, ht, _, _ => by
    have : o = cs.length := ht
    subst this
    exact ⟨[], trivial, by simpa using VsRel.nil⟩
  | f :: fs, Q :: Qs, o, xs, ht, hq, h => by
    simp only [List.mapM_cons, Option.bind_eq_bind, Option.bind_eq_some_iff] at h
    obtain ⟨y, hy, zs, hz, _⟩ := h
    obtain ⟨ts, h1, h2⟩ := hq.1 _ _ _ hy
    obtain ⟨ls, h3, h4⟩ := fields_see ht.2 hq.2 hz
    refine ⟨ts :: ls, ⟨h2, h3⟩, ?_⟩
    have hle := Tile.le ht.2
    rw [ht.1] at h1
    have := h1.append h4
    rw [← List.drop_drop, List.take_append_drop] at this
    simpa using this
  | [], _ :: _, _, _, _, hq, _ => hq.elim
  | _ :: _, [], _, _, _, hq, _ => hq.elim

theorem reads_struct {t : TypeId} {fs : Array Field} {Qs : List (List TV → Prop)} (ht : P.underlying t = some (.struct fs)) (hl : Tile P fs.toList 0 (P.cellsOf t)) (hq : ReadsAll enc P w sp held fs.toList Qs) :
    Reads enc P w sp held t fun ts => ∃ ls, AllQ Qs ls ∧ ts = ls.flatten := by
  intro fuel cs x h
  cases fuel with
  | zero => simp [DataW.trod] at h
  | succ fuel =>
    simp only [DataW.trod, ht] at h
    split at h <;> try (cases h; done)
    rename_i hlen
    simp only [Option.map_eq_some_iff] at h
    obtain ⟨xs, hxs, _⟩ := h
    obtain ⟨ls, h1, h2⟩ := fields_see (w := w) (by rw [hlen]; exact hl) hq hxs
    exact ⟨ls.flatten, by simpa using h2, ls, h1, rfl⟩

/-- an argument of one value -/
theorem sees_one {t : TypeId} {v : Value} {d : DataW H} {ps : List MemPlace} {Q : List TV → Prop} (hr : Reads enc P w sp held t Q) (hv : v.cells.toList = [v]) (hd : DataW.Trod enc P w 0 sp held t v d ps) : ∃ x, Sees w x v ∧ Q [x] := by
  obtain ⟨fuel, h⟩ := hd
  obtain ⟨ts, h1, h2⟩ := hr _ _ _ h
  rw [hv] at h1
  obtain ⟨x, rfl, hx⟩ := h1.inv1
  exact ⟨x, hx, h2⟩

/-- an argument of a struct or an array -/
theorem sees_agg {t : TypeId} {cs : Array Value} {d : DataW H} {ps : List MemPlace} {Q : List TV → Prop} (hr : Reads enc P w sp held t Q) (hd : DataW.Trod enc P w 0 sp held t (.agg cs) d ps) : ∃ ts, Sees w (.agg ts) (.agg cs) ∧ Q ts := by
  obtain ⟨fuel, h⟩ := hd
  obtain ⟨ts, h1, h2⟩ := hr _ _ _ h
  exact ⟨ts, .agg _ _ h1, h2⟩

end
end Go.Dn

/-
  A law's row, whatever data its arguments are.
-/

namespace Go.Dn
open Go.ChangeShapes Go.WideShapes Go.ChangeAt Go.RowKit

section
variable {H : Type} {enc : TypeId × Value → H} {P : Program}

theorem trodAll_stays (hl : laidOutB P = true) {W W' : World} (hb : Below W.heap.size W W') {sp : Nat → Bool} : ∀ {ts : List TypeId} {vs : List Value} {ds : List (DataW H)} {ps : List MemPlace},
    (ts.all fun t => P.readableRec t && decide (t < P.types.size)) = true → DataW.TrodAll enc P W 0 (fun _ => true) true ts vs ds ps → (∀ x, x ∈ ps → x.block < W.heap.size) → (∀ x, x ∈ ps → sp x.block = true) →
      DataW.TrodAll enc P W' 0 sp true ts vs ds ps
  | [], vs, ds, ps, _, h, _, _ => by
    obtain ⟨rfl, rfl, rfl⟩ := trodAll_nil h
    exact trodAll_mk0
  | t :: ts, vs, ds, ps, ht, h, hlt, hsp => by
    simp only [List.all_cons, Bool.and_eq_true, decide_eq_true_eq] at ht
    obtain ⟨v, vs', d, ds', p, q, rfl, rfl, rfl, h1, h2⟩ := trodAll_cons h
    exact trodAll_cons_mk (WideElems.Trod_stays hl ht.1.1 ht.1.2 h1 (fun x hx => hb.same (hlt x (by simp [hx]))) fun x hx => hsp x (by simp [hx]))
      (trodAll_stays hl hb ht.2 h2 (fun x hx => hlt x (by simp [hx])) fun x hx => hsp x (by simp [hx]))

/-- the answer 'true' meets a law's row -/
theorem law_post {f : Func} {s : ChangeSpec} {apart : Bool} {W W' : World} {args : Array Value} {ds gs : List (DataW H)} {before : List MemPlace} {tb : TypeId}
    (hl : laidOutB P = true) (hts : (f.params.toList.all fun t => P.readableRec t && decide (t < P.types.size)) = true) (hvars : s.vars = []) (hres : f.resultTypes = #[tb]) (hbool : P.underlying tb = some .bool)
    (hW : DataW.Whole enc P f.params.toList s.vars apart W args.toList ds gs before) (hfn : (s.fn H (ds ++ gs)).results = [.lit (.bool true)] ∧ (s.fn H (ds ++ gs)).args = ds ∧ (s.fn H (ds ++ gs)).vars = [])
    (hb : Below W.heap.size W W') {fresh handsOn again : Bool} : s.post enc P f apart fresh handsOn again W args (.bool true) W' := by
  have hlt := hW.lt
  have hW' := hW
  obtain ⟨p, q, hA, hV, hpq, hfz, hnd⟩ := hW
  rw [hvars] at hV
  obtain ⟨rfl, rfl⟩ := trodVars_none hV
  rw [List.append_nil] at hpq
  subst hpq
  refine row_post (pa := before) (pv := []) hW' (fun b sp hd => ?_) (fun sp hsp => ?_) (fun sp hsp => ?_) (by simp) hb (ok_one hres rfl (okWide_bool_mk hbool _))
  · rw [hfn.1, hres]
    exact trodAll_cons_mk (shut_bool hbool _) trodAll_mk0
  · rw [hfn.2.1]
    exact trodAll_stays hl hb hts hA hlt hsp
  · rw [hfn.2.2, hvars]
    rfl
end

/-- a value of one cell -/
theorem one_cell {P : Program} {w : World} {r : Reach} {base : Nat} {t : TypeId} {v : Value} (h : Value.okWide P w r base t v) (ht : aggT P t = false) : v.cells.toList = [v] := by
  cases v <;> try rfl
  exfalso
  rename_i cs
  have hn : ¬ Cell.okWide P w r base t (.agg cs) := by
    intro hc
    unfold Cell.okWide Cell.ok at hc
    cases hu : P.underlying t with
    | none => simp [hu] at hc
    | some d => cases d <;> simp [hu] at hc
  unfold Value.okWide at h
  unfold aggT at ht
  cases hu : P.underlying t with
  | none => simp only [hu] at h; exact hn h
  | some d =>
    cases d <;> simp only [hu] at h ht
    all_goals first | exact hn h | simp at ht

end Go.Dn

/-
  The arguments of the statements about boards, by value.
-/

namespace Go.Proofs.Try.Dn
open Go.Dn Go.ChangeShapes Go.WideShapes Go.ChangeAt Go.RowKit

theorem cells3 : Try.prog.cellsOf 3 = 1 := by kernel_rfl
theorem cells49 : Try.prog.cellsOf 49 = 3 := by kernel_rfl
theorem laid : laidOutB Try.prog = true := by kernel_rfl

abbrev Line := Int × Int × Int
def In64 (n : Int) : Prop := -9223372036854775808 ≤ n ∧ n ≤ 9223372036854775807
def lineTV (x : Line) : TV := .agg [.i .i64 x.1, .i .i64 x.2.1, .i .i64 x.2.2]
def LineOk (x : Line) : Prop := In64 x.1 ∧ In64 x.2.1 ∧ In64 x.2.2
def linesTV (l : List Line) : TV := .bs false 3 (l.map lineTV)

theorem in64 {n : Int} (h : okI .i64 n) : In64 n := by simpa [okI, In64, Lit.wf, IntKind.min, IntKind.max, IntKind.signed, IntKind.bits] using h

section
variable {H : Type} {enc : TypeId × Value → H} {w : World} {sp : Nat → Bool} {held : Bool}

theorem reads3 : Reads enc Try.prog w sp held 3 fun ts => ∃ n, ts = [.i .i64 n] ∧ okI .i64 n := reads_int Try.underlying3

theorem reads49 : Reads enc Try.prog w sp held 49 fun ts => ∃ x : Line, ts = [.i .i64 x.1, .i .i64 x.2.1, .i .i64 x.2.2] ∧ LineOk x := by
  intro fuel cs x h
  obtain ⟨ts, h1, l, h2, rfl, h3⟩ := reads_arr Try.underlying49 (by rw [cells49, cells3]) reads3 fuel cs x h
  match l, h2 with
  | [a, b, c], _ =>
    obtain ⟨x1, rfl, o1⟩ := h3 a (by simp)
    obtain ⟨x2, rfl, o2⟩ := h3 b (by simp)
    obtain ⟨x3, rfl, o3⟩ := h3 c (by simp)
    exact ⟨_, h1, (x1, x2, x3), rfl, in64 o1, in64 o2, in64 o3⟩

theorem lines_of : ∀ {l : List (List TV)}, (∀ x, x ∈ l → ∃ y : Line, x = [.i .i64 y.1, .i .i64 y.2.1, .i .i64 y.2.2] ∧ LineOk y) → ∃ m : List Line, l.map TV.agg = m.map lineTV ∧ m.length = l.length ∧ ∀ y, y ∈ m → LineOk y
  | [], _ => ⟨[], rfl, rfl, fun y hy => by cases hy⟩
  | a :: l, h => by
    obtain ⟨y, rfl, hy⟩ := h a (by simp)
    obtain ⟨m, h1, h2, h3⟩ := lines_of (l := l) fun x hx => h x (List.mem_cons_of_mem _ hx)
    refine ⟨y :: m, by simp [h1, lineTV], by simp [h2], fun z hz => ?_⟩
    rcases List.mem_cons.1 hz with rfl | hz
    · exact hy
    · exact h3 z hz

/-- lines, as an argument: nil, or so many of them -/
def IsLines (t : TV) (l : List Line) : Prop := (t = .nilsl ∧ l = [] ∨ t = linesTV l) ∧ l.length ≤ maxLen ∧ ∀ y, y ∈ l → LineOk y

theorem reads22 : Reads enc Try.prog w sp held 22 fun ts => ∃ t l, ts = [t] ∧ IsLines t l := by
  intro fuel cs x h
  obtain ⟨ts, h1, h2⟩ := reads_slice (mk := TV.agg) Try.underlying22 (by rw [cells49]; decide) reads49 (fun ts _ => rfl) fuel cs x h
  rcases h2 with rfl | ⟨l, rfl, hl, h3⟩
  · exact ⟨_, h1, .nilsl, [], rfl, .inl ⟨rfl, rfl⟩, by simp, fun y hy => by cases hy⟩
  · obtain ⟨m, k1, k2, k3⟩ := lines_of fun x hx => (h3 x hx).1
    exact ⟨_, h1, _, m, rfl, .inr (by rw [linesTV, ← k1, cells49]), by omega, k3⟩
end

end Go.Proofs.Try.Dn

/-
  What a board is: plain Lean.
-/

namespace Go.Proofs.Try.Dn

def lineBad (n : Int) (x : Line) : Bool := decide (x.1 < 0) || decide (x.2.2 ≤ x.1) || decide (n ≤ x.2.2) || decide (x.2.1 < 0) || decide (n ≤ x.2.1) || decide (x.2.1 = x.1) || decide (x.2.1 = x.2.2)
def lt3 (a b : Line) : Bool := decide (a.1 < b.1) || (decide (a.1 = b.1) && (decide (a.2.1 < b.2.1) || (decide (a.2.1 = b.2.1) && decide (a.2.2 < b.2.2))))
/-- what is wrong with lines behind a line -/
def chkFrom (n : Int) : Option Line → List Line → Int
  | _, [] => 0
  | p, x :: l => if lineBad n x || (match p with | none => false | some q => !lt3 q x) then 20 else chkFrom n (some x) l
def chk (n : Int) (l : List Line) : Int := if n < 1 ∨ 16 < n then 1 else if 40 < l.length then 2 else chkFrom n none l

end Go.Proofs.Try.Dn

namespace Go.Proofs.Try.Dn
open Go.Dn

theorem l46_step {pg : Pg} {H : Heap} {id : Nat} {n v : Int} {i t : TV} {k : Nat} {cs : List TV} (hk : k < 3) (hc : H[id]? = some (.cells cs true)) (hv : cs[k]? = some (.i .i64 v)) (h0 : 0 ≤ v) (h1 : v < n) :
    den pg l46_1 [(0, .i .i64 n), (1, t), (5, i), (6, .ref id 0), (7, .i .i64 k)] H = den pg l46_1 [(0, .i .i64 n), (1, t), (5, i), (6, .ref id 0), (7, .i .i64 ((k + 1 : Nat) : Int))] H := by
  have e1 : ((k : Int) < 3) := by omega
  have e2 : wrapR .i64 ((k : Int) + 1) = .i .i64 ((k + 1 : Nat) : Int) := by rw [wrapR_i64 (by omega)]; rfl
  have e3 : ¬ v < 0 := by omega
  have e4 : ¬ n ≤ v := by omega
  rw [den_eq]
  simp [l46_1, b46_0, runC, opsRun, operRun, guardRun, evalO, mapO, Dn.get, putE, keepE, dk, binI, bound, part_one hv rfl, e1, e2, e3, e4, hk, hc]

theorem l46_low {pg : Pg} {H : Heap} {id : Nat} {n v : Int} {i t : TV} {k : Nat} {cs : List TV} (hk : k < 3) (hc : H[id]? = some (.cells cs true)) (hv : cs[k]? = some (.i .i64 v)) (h0 : v < 0) :
    den pg l46_1 [(0, .i .i64 n), (1, t), (5, i), (6, .ref id 0), (7, .i .i64 k)] H = some ⟨.ret, [(4, .i .i64 20)], H⟩ := by
  have e1 : ((k : Int) < 3) := by omega
  rw [den_eq]
  simp [l46_1, b46_0, runC, opsRun, operRun, guardRun, evalO, mapO, Dn.get, putE, keepE, dk, binI, bound, part_one hv rfl, e1, h0, hk, hc]

theorem l46_high {pg : Pg} {H : Heap} {id : Nat} {n v : Int} {i t : TV} {k : Nat} {cs : List TV} (hk : k < 3) (hc : H[id]? = some (.cells cs true)) (hv : cs[k]? = some (.i .i64 v)) (h0 : 0 ≤ v) (h1 : n ≤ v) :
    den pg l46_1 [(0, .i .i64 n), (1, t), (5, i), (6, .ref id 0), (7, .i .i64 k)] H = some ⟨.ret, [(4, .i .i64 20)], H⟩ := by
  have e1 : ((k : Int) < 3) := by omega
  have e3 : ¬ v < 0 := by omega
  rw [den_eq]
  simp [l46_1, b46_0, runC, opsRun, operRun, guardRun, evalO, mapO, Dn.get, putE, keepE, dk, binI, bound, part_one hv rfl, e1, e3, h1, hk, hc]

theorem l46_end {pg : Pg} {H : Heap} {id : Nat} {n : Int} {i t : TV} :
    den pg l46_1 [(0, .i .i64 n), (1, t), (5, i), (6, .ref id 0), (7, .i .i64 3)] H = some ⟨.exit 2, [(0, .i .i64 n), (1, t), (5, i), (6, .ref id 0), (7, .i .i64 3), (28, .b false)], H⟩ := by
  rw [den_eq]
  simp [l46_1, b46_0, runC, opsRun, operRun, guardRun, evalO, mapO, Dn.get, putE, keepE, dk, binI]

end Go.Proofs.Try.Dn

namespace Go.Proofs.Try.Dn
open Go.Dn

theorem l64_same {pg : Pg} {H : Heap} {i j : Nat} {k : Nat} {cs ds : List TV} {v : Int} (hk : k < 3) (hi : H[i]? = some (.cells cs true)) (hj : H[j]? = some (.cells ds true)) (h1 : cs[k]? = some (.i .i64 v)) (h2 : ds[k]? = some (.i .i64 v)) :
    den pg l64_1 [(2, .ref i 0), (3, .ref j 0), (5, .i .i64 k)] H = den pg l64_1 [(2, .ref i 0), (3, .ref j 0), (5, .i .i64 ((k + 1 : Nat) : Int))] H := by
  have e1 : ((k : Int) < 3) := by omega
  have e2 : wrapR .i64 ((k : Int) + 1) = .i .i64 ((k + 1 : Nat) : Int) := by rw [wrapR_i64 (by omega)]; rfl
  rw [den_eq]
  simp [l64_1, b64_0, runC, opsRun, operRun, guardRun, evalO, mapO, Dn.get, putE, keepE, dk, binI, bound, part_one h1 rfl, part_one h2 rfl, e1, e2, hk, hi, hj]

theorem l64_diff {pg : Pg} {H : Heap} {i j : Nat} {k : Nat} {cs ds : List TV} {v u : Int} (hk : k < 3) (hi : H[i]? = some (.cells cs true)) (hj : H[j]? = some (.cells ds true)) (h1 : cs[k]? = some (.i .i64 v)) (h2 : ds[k]? = some (.i .i64 u)) (hne : v ≠ u) :
    den pg l64_1 [(2, .ref i 0), (3, .ref j 0), (5, .i .i64 k)] H = some ⟨.ret, [(4, .b (decide (v < u)))], H⟩ := by
  have e1 : ((k : Int) < 3) := by omega
  rw [den_eq]
  simp [l64_1, b64_0, runC, opsRun, operRun, guardRun, evalO, mapO, Dn.get, putE, keepE, dk, binI, bound, part_one h1 rfl, part_one h2 rfl, e1, hk, hi, hj, hne]

theorem l64_end {pg : Pg} {H : Heap} {i j : Nat} : den pg l64_1 [(2, .ref i 0), (3, .ref j 0), (5, .i .i64 3)] H = some ⟨.exit 0, [(2, .ref i 0), (3, .ref j 0), (5, .i .i64 3), (7, .b false)], H⟩ := by
  rw [den_eq]
  simp [l64_1, b64_0, runC, opsRun, operRun, guardRun, evalO, mapO, Dn.get, putE, keepE, dk, binI]

end Go.Proofs.Try.Dn

namespace Go.Proofs.Try.Dn
open Go.Dn

def heap2 (a b : Line) : Heap := [.cells [.i .i64 a.1, .i .i64 a.2.1, .i .i64 a.2.2] true, .cells [.i .i64 b.1, .i .i64 b.2.1, .i .i64 b.2.2] true]

theorem l64_run {pg : Pg} (a b : Line) : ∃ e x, den pg l64_1 [(2, .ref 0 0), (3, .ref 1 0), (5, .i .i64 0)] (heap2 a b) = some ⟨x, e, heap2 a b⟩ ∧ (x = .exit 0 ∧ lt3 a b = false ∨ x = .ret ∧ e = [(4, .b (lt3 a b))]) := by
  obtain ⟨a0, a1, a2⟩ := a
  obtain ⟨b0, b1, b2⟩ := b
  by_cases h0 : a0 = b0
  · subst h0
    have k0 := l64_same (pg := pg) (H := heap2 (a0, a1, a2) (a0, b1, b2)) (i := 0) (j := 1) (k := 0) (by omega) rfl rfl rfl rfl
    by_cases h1 : a1 = b1
    · subst h1
      have k1 := l64_same (pg := pg) (H := heap2 (a0, a1, a2) (a0, a1, b2)) (i := 0) (j := 1) (k := 1) (by omega) rfl rfl rfl rfl
      by_cases h2 : a2 = b2
      · subst h2
        have k2 := l64_same (pg := pg) (H := heap2 (a0, a1, a2) (a0, a1, a2)) (i := 0) (j := 1) (k := 2) (by omega) rfl rfl rfl rfl
        exact ⟨_, _, k0.trans (k1.trans (k2.trans l64_end)), .inl ⟨rfl, by simp [lt3]⟩⟩
      · exact ⟨_, _, k0.trans (k1.trans (l64_diff (k := 2) (by omega) rfl rfl rfl rfl h2)), .inr ⟨rfl, by simp [lt3]⟩⟩
    · exact ⟨_, _, k0.trans (l64_diff (k := 1) (by omega) rfl rfl rfl rfl h1), .inr ⟨rfl, by simp [lt3, h1]⟩⟩
  · exact ⟨_, _, l64_diff (k := 0) (by omega) rfl rfl rfl rfl h0, .inr ⟨rfl, by simp [lt3, h0]⟩⟩

theorem run64 {pg : Pg} (hF : pg.F 64 = some d64) (a b : Line) : ∃ H, bodyRun pg (den pg) 64 [lineTV a, lineTV b] [] = some (.b (lt3 a b), H) := by
  obtain ⟨e, x, h, hx⟩ := l64_run (pg := pg) a b
  have h' : runC pg (den pg) l64_1 [(2, .ref 0 0), (3, .ref 1 0), (5, .i .i64 0)] (heap2 a b) = _ := (den_eq _ _ _).symm.trans h
  have hall : ∃ o, runC pg (den pg) c64 [(0, lineTV a), (1, lineTV b)] [] = some o ∧ (∀ id, o.ex ≠ .exit id) ∧ mapO (resRun o.env o.H) d64.res = some [.b (lt3 a b)] := by
    rcases hx with ⟨rfl, h0⟩ | ⟨rfl, rfl⟩
    · refine ⟨⟨.ret, [(4, .b false)], heap2 a b⟩, ?_, by simp, by simp [d64, mapO, resRun, Dn.get, h0]⟩
      simp [c64, runC, opsRun, operRun, guardRun, evalO, mapO, Dn.get, putE, keepE, dk, lineTV, TV.cells, TV.one, TV.isAgg]
      simp [heap2] at h'
      simp [h', heap2]
    · refine ⟨⟨.ret, [(4, .b (lt3 a b))], heap2 a b⟩, ?_, by simp, by simp [d64, mapO, resRun, Dn.get]⟩
      simp [c64, runC, opsRun, operRun, guardRun, evalO, mapO, Dn.get, putE, keepE, dk, lineTV, TV.cells, TV.one, TV.isAgg]
      simp [heap2] at h'
      simp [h', heap2]
  obtain ⟨o, h1, h2, h3⟩ := hall
  exact ⟨o.H, bodyRun_of (xs := [lineTV a, lineTV b]) (H := []) hF rfl h1 h2 h3⟩

end Go.Proofs.Try.Dn

/-
  Code run frame by frame: equations for proofs by rewriting.
-/

namespace Go.Dn

inductive Fr where
  | c (x : DC)
  | ops (l : List DOper) (ks : List Nat)
  | blk (id : Nat)

section
variable (pg : Pg) (R : Rec)

/-- what is left to do, done -/
def go : List Fr → Ex → Env → Heap → Option Out
  | [], x, e, H => some ⟨x, e, H⟩
  | .c c :: k, .normal, e, H => (runC pg R c e H).bind fun o => go k o.ex o.env o.H
  | .ops l ks :: k, .normal, e, H => (opsRun pg R l e H).bind fun p => go k .normal (keepE ks p.1) p.2
  | .blk id :: k, x, e, H => go k (if x = .exit id then .normal else x) e H
  | _ :: k, x, e, H => go k x e H

def cont : Option Out → List Fr → Option Out
  | some o, k => go pg R k o.ex o.env o.H
  | none, _ => none

def fin : Option (TV × Heap) → Option Nat → List DOper → List Nat → List Fr → Env → Option Out
  | some (v, H), d, os, ks, k, e => go pg R (.ops os ks :: k) .normal (putE e d v) H
  | none, _, _, _, _, _ => none

/-- an operation's answer -/
def dkc (op : DK) (vs : List TV) (H : Heap) : Option (TV × Heap) :=
  match op with
  | .call m => callRun pg R m vs H
  | op => dk op vs H

def stp (op : DK) (d : Option Nat) : Option (List TV) → List DOper → List Nat → List Fr → Env → Heap → Option Out
  | some vs, os, ks, k, e, H => fin pg R (dkc pg R op vs H) d os ks k e
  | none, _, _, _, _, _ => none

def grd : Option TV → Bool → DK → Option Nat → List Opnd → List DOper → List Nat → List Fr → Env → Heap → Option Out
  | some (.b x), w, op, d, a, os, ks, k, e, H => if x = w then stp pg R op d (mapO (evalO pg e) a) os ks k e H else go pg R (.ops os ks :: k) .normal (putE e d .undef) H
  | some .undef, _, _, d, _, os, ks, k, e, H => go pg R (.ops os ks :: k) .normal (putE e d .undef) H
  | _, _, _, _, _, _, _, _, _, _ => none

def cnd : Option TV → DC → DC → List Fr → Env → Heap → Option Out
  | some (.b t), x, y, k, e, H => if t then go pg R (.c x :: k) .normal e H else go pg R (.c y :: k) .normal e H
  | _, _, _, _, _, _ => none

variable {pg : Pg} {R : Rec}

theorem runC_go (c : DC) (e : Env) (H : Heap) : runC pg R c e H = go pg R [.c c] .normal e H := by
  simp only [go]
  cases runC pg R c e H <;> rfl

theorem go_nil (x : Ex) (e : Env) (H : Heap) : go pg R [] x e H = some ⟨x, e, H⟩ := rfl

theorem go_past (c : DC) (k : List Fr) (id : Nat) (e : Env) (H : Heap) : go pg R (.c c :: k) (.exit id) e H = go pg R k (.exit id) e H := rfl
theorem go_pastR (c : DC) (k : List Fr) (e : Env) (H : Heap) : go pg R (.c c :: k) .ret e H = go pg R k .ret e H := rfl
theorem go_blkN (id : Nat) (k : List Fr) (e : Env) (H : Heap) : go pg R (.blk id :: k) .normal e H = go pg R k .normal e H := rfl
theorem go_blkR (id : Nat) (k : List Fr) (e : Env) (H : Heap) : go pg R (.blk id :: k) .ret e H = go pg R k .ret e H := rfl
theorem go_blkE (id : Nat) (k : List Fr) (j : Nat) (e : Env) (H : Heap) : go pg R (.blk id :: k) (.exit j) e H = if j = id then go pg R k .normal e H else go pg R k (.exit j) e H := by
  by_cases h : j = id <;> simp [go, h]

theorem go_skip (k : List Fr) (e : Env) (H : Heap) : go pg R (.c .skip :: k) .normal e H = go pg R k .normal e H := rfl
theorem go_exit (id : Nat) (k : List Fr) (e : Env) (H : Heap) : go pg R (.c (.exit id) :: k) .normal e H = go pg R k (.exit id) e H := rfl
theorem go_ret (k : List Fr) (e : Env) (H : Heap) : go pg R (.c .ret :: k) .normal e H = go pg R k .ret e H := rfl
theorem go_scope (c : DC) (k : List Fr) (e : Env) (H : Heap) : go pg R (.c (.scope c) :: k) .normal e H = go pg R (.c c :: k) .normal e H := rfl

theorem go_seq (x y : DC) (k : List Fr) (e : Env) (H : Heap) : go pg R (.c (.seq x y) :: k) .normal e H = go pg R (.c x :: .c y :: k) .normal e H := by
  simp only [go, runC]
  cases runC pg R x e H with
  | none => rfl
  | some o =>
    simp only [Option.bind_some]
    cases h : o.ex with
    | normal => simp [go]
    | exit id => simp [go, h]
    | ret => simp [go, h]

theorem go_reg (l : List DOper) (ks : List Nat) (k : List Fr) (e : Env) (H : Heap) : go pg R (.c (.reg l ks) :: k) .normal e H = go pg R (.ops l ks :: k) .normal e H := by
  simp only [go, runC]
  cases opsRun pg R l e H <;> rfl

theorem go_block (id : Nat) (x : DC) (k : List Fr) (e : Env) (H : Heap) : go pg R (.c (.block id x) :: k) .normal e H = go pg R (.c x :: .blk id :: k) .normal e H := by
  simp only [go, runC]
  cases runC pg R x e H with
  | none => rfl
  | some o =>
    simp only [Option.map_some, Option.bind_some]
    by_cases h : o.ex = .exit id <;> simp [h]

theorem go_cond (c : Opnd) (x y : DC) (k : List Fr) (e : Env) (H : Heap) : go pg R (.c (.cond c x y) :: k) .normal e H = cnd pg R (evalO pg e c) x y k e H := by
  simp only [go, runC, cnd]
  split
  · rename_i t h
    rw [h]
    cases t <;> rfl
  · rename_i h
    cases he : evalO pg e c with
    | none => rfl
    | some v =>
      cases v <;> first | rfl | exact absurd he (h _)

theorem cnd_b (t : Bool) (x y : DC) (k : List Fr) (e : Env) (H : Heap) : cnd pg R (some (.b t)) x y k e H = if t = true then go pg R (.c x :: k) .normal e H else go pg R (.c y :: k) .normal e H := rfl

theorem go_opsN (ks : List Nat) (k : List Fr) (e : Env) (H : Heap) : go pg R (.ops [] ks :: k) .normal e H = go pg R k .normal (keepE ks e) H := rfl

theorem operRun_eq (o : DOper) (e : Env) (H : Heap) (hg : guardRun e o.g = some true) : operRun pg R o e H = (mapO (evalO pg e) o.a).bind fun vs => (dkc pg R o.k vs H).map fun p => (putE e o.d p.1, p.2) := by
  simp only [operRun, hg, Option.bind_some, if_true]
  cases mapO (evalO pg e) o.a with
  | none => rfl
  | some vs => simp only [Option.bind_some, dkc]; cases o.k <;> rfl

theorem go_ops (d : Option Nat) (op : DK) (a : List Opnd) (os : List DOper) (ks : List Nat) (k : List Fr) (e : Env) (H : Heap) :
    go pg R (.ops (⟨d, op, a, none⟩ :: os) ks :: k) .normal e H = stp pg R op d (mapO (evalO pg e) a) os ks k e H := by
  simp only [go, opsRun]
  rw [operRun_eq _ _ _ rfl]
  simp only [stp]
  cases mapO (evalO pg e) a with
  | none => rfl
  | some vs =>
    simp only [Option.bind_some]
    cases dkc pg R op vs H with
    | none => rfl
    | some p => rfl

theorem stp_some (op : DK) (d : Option Nat) (vs : List TV) (os : List DOper) (ks : List Nat) (k : List Fr) (e : Env) (H : Heap) : stp pg R op d (some vs) os ks k e H = fin pg R (dkc pg R op vs H) d os ks k e := rfl

theorem fin_some (v : TV) (H : Heap) (d : Option Nat) (os : List DOper) (ks : List Nat) (k : List Fr) (e : Env) : fin pg R (some (v, H)) d os ks k e = go pg R (.ops os ks :: k) .normal (putE e d v) H := rfl

theorem go_opsG (d : Option Nat) (op : DK) (a : List Opnd) (s : Nat) (w : Bool) (os : List DOper) (ks : List Nat) (k : List Fr) (e : Env) (H : Heap) :
    go pg R (.ops (⟨d, op, a, some (s, w)⟩ :: os) ks :: k) .normal e H = grd pg R (get e s) w op d a os ks k e H := by
  cases hs : get e s with
  | none => simp [go, opsRun, operRun, guardRun, hs, grd]
  | some v =>
    cases v <;> try (simp [go, opsRun, operRun, guardRun, hs, grd]; done)
    rename_i x
    by_cases hx : x = w
    · have := go_ops (pg := pg) (R := R) d op a os ks k e H
      simp only [grd, hx, if_true]
      rw [← this]
      simp only [go, opsRun, operRun_eq ⟨d, op, a, some (s, w)⟩ e H (by simp [guardRun, hs, hx]), operRun_eq ⟨d, op, a, none⟩ e H rfl]
    · simp [go, opsRun, operRun, guardRun, hs, grd, hx]

theorem grd_b (x w : Bool) (op : DK) (d : Option Nat) (a : List Opnd) (os : List DOper) (ks : List Nat) (k : List Fr) (e : Env) (H : Heap) : grd pg R (some (.b x)) w op d a os ks k e H = if x = w then stp pg R op d (mapO (evalO pg e) a) os ks k e H else go pg R (.ops os ks :: k) .normal (putE e d .undef) H := rfl

theorem grd_u (w : Bool) (op : DK) (d : Option Nat) (a : List Opnd) (os : List DOper) (ks : List Nat) (k : List Fr) (e : Env) (H : Heap) : grd pg R (some .undef) w op d a os ks k e H = go pg R (.ops os ks :: k) .normal (putE e d .undef) H := rfl

theorem go_den (c : DC) (k : List Fr) (e : Env) (H : Heap) : go pg (den pg) (.c c :: k) .normal e H = cont pg (den pg) (den pg c e H) k := by
  rw [den_eq]
  simp only [go, cont]
  cases runC pg (den pg) c e H <;> rfl

theorem cont_some (x : Ex) (e : Env) (H : Heap) (k : List Fr) : cont pg R (some ⟨x, e, H⟩) k = go pg R k x e H := rfl

theorem go_last (ks : List Nat) (x : DC) (e : Env) (H : Heap) : go pg (den pg) [.c (.loop ks x)] .normal e H = den pg (.loop ks x) e H := by
  rw [← runC_go, ← den_eq]

/-- a loop's round -/
theorem den_loop (ks : List Nat) (x : DC) (e : Env) (H : Heap) : den pg (.loop ks x) e H = cont pg (den pg) (go pg (den pg) [.c x] .normal (keepE ks e) H) [.c (.loop ks x)] := by
  rw [den_eq, ← runC_go]
  simp only [runC]
  cases runC pg (den pg) x (keepE ks e) H with
  | none => rfl
  | some o =>
    obtain ⟨x', e', H'⟩ := o
    simp only [Option.bind_some, cont]
    cases x' with
    | normal =>
      rw [go_den]
      simp only [if_true]
      cases den pg (.loop ks x) e' H' <;> rfl
    | exit id => rw [go_past, go_nil]; simp
    | ret => rw [go_pastR, go_nil]; simp

end

/-! operations -/
section
variable {pg : Pg} {R : Rec}
def up (o : Option TV) (H : Heap) : Option (TV × Heap) := o.map fun v => (v, H)
theorem up_some (v : TV) (H : Heap) : up (some v) H = some (v, H) := rfl

theorem k_call (m : CMode) (vs : List TV) (H : Heap) : dkc pg R (.call m) vs H = callRun pg R m vs H := rfl
theorem k_mv (x : TV) (H : Heap) : dkc pg R .mv [x] H = some (x, H) := rfl
theorem k_pick (c : Bool) (a b : TV) (H : Heap) : dkc pg R .pick [.b c, a, b] H = some (if c = true then a else b, H) := rfl
theorem k_bin (op : BinOp) (x y : TV) (H : Heap) : dkc pg R (.binI op) [x, y] H = up (binI op x y) H := rfl
theorem k_eqB (neg x y : Bool) (H : Heap) : dkc pg R (.eqB neg) [.b x, .b y] H = some (.b (negb neg (x == y)), H) := rfl
theorem k_eqA (neg : Bool) (ks : List Bool) (x y : List TV) (H : Heap) : dkc pg R (.eqA neg ks) [.agg x, .agg y] H = up ((eqL ks x y).map fun e => .b (negb neg e)) H := by
  simp only [dkc, dk, up]; cases eqL ks x y <;> rfl
theorem k_not (x : Bool) (H : Heap) : dkc pg R .notB [.b x] H = some (.b (!x), H) := rfl
theorem k_neg (k : IntKind) (x : Int) (H : Heap) : dkc pg R (.negI k) [.i k x] H = some (wrapR k (0 - x), H) := by simp [dkc, dk]
theorem k_conv (k k' : IntKind) (n : Int) (H : Heap) : dkc pg R (.conv k) [.i k' n] H = some (wrapR k n, H) := rfl
theorem k_alloc (z : List TV) (ag : Bool) (H : Heap) : dkc pg R (.alloc z ag) [] H = some (.ref H.length 0, H ++ [.cells z ag]) := rfl
theorem k_boxA (l : List TV) (H : Heap) (h : l.all TV.one = true) : dkc pg R (.box true) [.agg l] H = some (.ref H.length 0, H ++ [.cells l true]) := by simp [dkc, dk, TV.cells, TV.isAgg, h]
theorem k_box (x : TV) (H : Heap) (h : x.one = true) : dkc pg R (.box false) [x] H = some (.ref H.length 0, H ++ [.cells [x] false]) := by
  have : x.cells = [x] := by cases x <;> simp_all [TV.cells, TV.one]
  have h2 : x.isAgg = false := by cases x <;> simp_all [TV.isAgg, TV.one]
  simp [dkc, dk, this, h, h2]
theorem k_boxI (k : IntKind) (n : Int) (H : Heap) : dkc pg R (.box false) [.i k n] H = some (.ref H.length 0, H ++ [.cells [.i k n] false]) := rfl
theorem k_boxB (x : Bool) (H : Heap) : dkc pg R (.box false) [.b x] H = some (.ref H.length 0, H ++ [.cells [.b x] false]) := rfl
theorem k_boxN (H : Heap) : dkc pg R (.box false) [.nilsl] H = some (.ref H.length 0, H ++ [.cells [.nilsl] false]) := rfl
theorem k_boxBs (bo : Bool) (sz : Nat) (es : List TV) (H : Heap) : dkc pg R (.box false) [.bs bo sz es] H = some (.ref H.length 0, H ++ [.cells [.bs bo sz es] false]) := rfl
def ldC : Option AObj → Nat → Bool → Nat → Heap → Option (TV × Heap)
  | some (.cells c _), sz, ag, off, H => up (part sz ag off c) H
  | _, _, _, _, _ => none
def stC : Option AObj → Nat → Nat → Nat → List TV → Heap → Option (TV × Heap)
  | some (.cells c ag), sz, id, off, l, H => if l.length = sz ∧ l.all TV.one = true ∧ off + sz ≤ c.length then some (.undef, H.set id (.cells (put2 c off l) ag)) else none
  | _, _, _, _, _, _ => none
theorem k_ldR (sz : Nat) (ag : Bool) (id off : Nat) (H : Heap) : dkc pg R (.ld sz ag) [.ref id off] H = ldC H[id]? sz ag off H := by
  simp only [dkc, dk, ldC, up]
  cases H[id]? with
  | none => rfl
  | some o => cases o <;> rfl
theorem ldC_some (c : List TV) (ag' : Bool) (sz : Nat) (ag : Bool) (off : Nat) (H : Heap) : ldC (some (.cells c ag')) sz ag off H = up (part sz ag off c) H := rfl
theorem k_ldA (sz : Nat) (l : List TV) (bo : Bool) (H : Heap) (h : l.length = sz) : dkc pg R (.ld sz true) [.bp bo (.agg l)] H = some (.agg l, H) := by simp [dkc, dk, h]
theorem k_ldI (sz : Nat) (k : IntKind) (n : Int) (bo : Bool) (H : Heap) : dkc pg R (.ld sz false) [.bp bo (.i k n)] H = some (.i k n, H) := rfl
theorem k_ldB (sz : Nat) (x : Bool) (bo : Bool) (H : Heap) : dkc pg R (.ld sz false) [.bp bo (.b x)] H = some (.b x, H) := rfl
theorem k_stA (sz : Nat) (id off : Nat) (l : List TV) (H : Heap) : dkc pg R (.st sz) [.ref id off, .agg l] H = stC H[id]? sz id off l H := by
  simp only [dkc, dk, stC, TV.cells]
  cases H[id]? with
  | none => rfl
  | some o => cases o <;> rfl
theorem stC_some (c : List TV) (ag : Bool) (sz : Nat) (id off : Nat) (l : List TV) (H : Heap) : stC (some (.cells c ag)) sz id off l H = if l.length = sz ∧ l.all TV.one = true ∧ off + sz ≤ c.length then some (.undef, H.set id (.cells (put2 c off l) ag)) else none := rfl
theorem k_stI (id off : Nat) (k : IntKind) (n : Int) (H : Heap) : dkc pg R (.st 1) [.ref id off, .i k n] H = stC H[id]? 1 id off [.i k n] H := by
  simp only [dkc, dk, stC, TV.cells]
  cases H[id]? with
  | none => rfl
  | some o => cases o <;> rfl
theorem k_stB (id off : Nat) (x : Bool) (H : Heap) : dkc pg R (.st 1) [.ref id off, .b x] H = stC H[id]? 1 id off [.b x] H := by
  simp only [dkc, dk, stC, TV.cells]
  cases H[id]? with
  | none => rfl
  | some o => cases o <;> rfl
theorem k_mkfn (f nf : Nat) (vs : List TV) (H : Heap) (h : nf ≤ vs.length) : dkc pg R (.mkfn f nf) vs H = some (.fn f (vs.take nf) (vs.drop nf), H) := by simp [dkc, dk, h]
theorem k_slc (lo hi mx : Bool) (sz : Nat) (ag : Bool) (x : TV) (vs : List TV) (H : Heap) : dkc pg R (.slc lo hi mx sz ag) (x :: vs) H = up (slcRun lo hi mx sz ag x vs) H := rfl
theorem k_slcA (lo hi mx : Bool) (n sz : Nat) (ag : Bool) (x : TV) (vs : List TV) (H : Heap) : dkc pg R (.slcA lo hi mx n sz ag) (x :: vs) H = up (slcARun lo hi mx n sz ag x vs H) H := rfl
theorem k_ixA (n sz : Nat) (ag : Bool) (id off : Nat) (k : IntKind) (i : Int) (H : Heap) (h0 : 0 ≤ i) (h : i.toNat < n) : dkc pg R (.ixA n sz ag) [.ref id off, .i k i] H = some (.ref id (off + i.toNat * sz), H) := by simp [dkc, dk, bound, h0, h]
theorem k_ixBs (sz : Nat) (ag : Bool) (bo : Bool) (es : List TV) (k : IntKind) (i : Int) (H : Heap) (h0 : 0 ≤ i) : dkc pg R (.ixS sz ag) [.bs bo sz es, .i k i] H = up ((es[i.toNat]?).map fun e => .bp bo e) H := by
  simp only [dkc, dk, bound, h0, if_true, Option.bind_some, up]; cases es[i.toNat]? <;> rfl
theorem k_ixSl (sz : Nat) (ag ag' : Bool) (id off len : Nat) (cap : Option Nat) (k : IntKind) (i : Int) (H : Heap) (h0 : 0 ≤ i) (h : i.toNat < len) : dkc pg R (.ixS sz ag) [.sl id off sz ag' len cap, .i k i] H = some (.ref id (off + i.toNat * sz), H) := by simp [dkc, dk, bound, h0, h]
theorem k_fadr (id o off sz : Nat) (ag : Bool) (H : Heap) : dkc pg R (.fadr off sz ag) [.ref id o] H = some (.ref id (o + off), H) := rfl
theorem k_fld (off sz : Nat) (ag : Bool) (l : List TV) (H : Heap) : dkc pg R (.fld off sz ag) [.agg l] H = up (part sz ag off l) H := rfl
theorem k_ext (n : Nat) (l : List TV) (H : Heap) : dkc pg R (.ext n) [.tup l] H = up l[n]? H := rfl
theorem k_len (kd : Nat) (x : TV) (H : Heap) : dkc pg R (.len kd) [x] H = up ((lenK kd x H).map fun (n : Nat) => .i .i64 (n : Int)) H := by
  simp only [dkc, dk, up]; cases lenK kd x H <;> rfl
theorem k_app (sz : Nat) (ag : Bool) (bytes : Nat) (s x : TV) (H : Heap) : dkc pg R (.app sz ag bytes) [s, x] H = appRun sz ag bytes s x H := rfl
theorem k_mn (k : IntKind) (x y : Int) (H : Heap) : dkc pg R .mnI [.i k x, .i k y] H = some (.i k (if y < x then y else x), H) := by simp [dkc, dk, foldI]
theorem k_mx (k : IntKind) (x y : Int) (H : Heap) : dkc pg R .mxI [.i k x, .i k y] H = some (.i k (if y > x then y else x), H) := by simp [dkc, dk, foldI]
theorem k_nilck (id o : Nat) (H : Heap) : dkc pg R .nilck [.ref id o] H = some (.ref id o, H) := rfl
theorem k_eqN (kd : Nat) (neg : Bool) (x y : TV) (H : Heap) : dkc pg R (.eqN kd neg) [x, y] H = dk (.eqN kd neg) [x, y] H := rfl
theorem k_build (z : List TV) (ps : List (Nat × Nat)) (vs : List TV) (H : Heap) : dkc pg R (.build z ps) vs H = up ((fillP z ps vs).map .agg) H := by
  simp only [dkc, dk, up]; cases fillP z ps vs <;> rfl

theorem k_bsl1 (k0 k : IntKind) (z a : Int) (H : Heap) : dkc pg R (.bsl false [.i k0 z] false 1 [0]) [.i k a] H = some (.sl H.length 0 1 false 1 (some 1), H ++ [.cells [.i k a] false]) := by
  simp [dkc, dk, fillP, repl, put2, TV.cells, TV.one]
theorem k_bsl2 (k0 k k' : IntKind) (z a b : Int) (H : Heap) : dkc pg R (.bsl false [.i k0 z] false 2 [0, 1]) [.i k a, .i k' b] H = some (.sl H.length 0 1 false 2 (some 2), H ++ [.cells [.i k a, .i k' b] false]) := by
  simp [dkc, dk, fillP, repl, put2, TV.cells, TV.one, List.replicate]

theorem k_mksl (z : List TV) (ag : Bool) (bytes : Nat) (k k' : IntKind) (l : Nat) (H : Heap) (h : bytes * l ≤ 140737488355328) (h2 : l ≤ 140737488355328) : dkc pg R (.mksl z ag bytes) [.i k (l : Int), .i k' (l : Int)] H = some (.sl H.length 0 z.length ag l (some l), H ++ [.cells (repl z l) false]) := by
  simp [dkc, dk, bound, h, h2]

theorem b_add (k : IntKind) (x y : Int) : binI .add (.i k x) (.i k y) = some (wrapR k (x + y)) := by simp [binI]
theorem b_sub (k : IntKind) (x y : Int) : binI .sub (.i k x) (.i k y) = some (wrapR k (x - y)) := by simp [binI]
theorem b_mul (k : IntKind) (x y : Int) : binI .mul (.i k x) (.i k y) = some (wrapR k (x * y)) := by simp [binI]
theorem b_eql (k : IntKind) (x y : Int) : binI .eql (.i k x) (.i k y) = some (.b (x == y)) := by simp [binI]
theorem b_neq (k : IntKind) (x y : Int) : binI .neq (.i k x) (.i k y) = some (.b (x != y)) := by simp [binI]
theorem b_lss (k : IntKind) (x y : Int) : binI .lss (.i k x) (.i k y) = some (.b (decide (x < y))) := by simp [binI]
theorem b_leq (k : IntKind) (x y : Int) : binI .leq (.i k x) (.i k y) = some (.b (decide (x ≤ y))) := by simp [binI]
theorem b_gtr (k : IntKind) (x y : Int) : binI .gtr (.i k x) (.i k y) = some (.b (decide (y < x))) := by simp [binI]
theorem b_geq (k : IntKind) (x y : Int) : binI .geq (.i k x) (.i k y) = some (.b (decide (y ≤ x))) := by simp [binI]
end

/-! snapshots -/
theorem sn_i (m : SM) (H : Heap) (k : IntKind) (n : Int) : snap m H 9 (.i k n) = some (.i k n) := by simp [snap]
theorem sn_b (m : SM) (H : Heap) (x : Bool) : snap m H 9 (.b x) = some (.b x) := by simp [snap]
theorem sn_nil (m : SM) (H : Heap) : snap m H 9 .nilsl = some .nilsl := by simp [snap]
theorem sn8_i (m : SM) (H : Heap) (k : IntKind) (n : Int) : snap m H 8 (.i k n) = some (.i k n) := by simp [snap]
theorem sn8_b (m : SM) (H : Heap) (x : Bool) : snap m H 8 (.b x) = some (.b x) := by simp [snap]
theorem sn8_nil (m : SM) (H : Heap) : snap m H 8 .nilsl = some .nilsl := by simp [snap]
theorem sn7_i (m : SM) (H : Heap) (k : IntKind) (n : Int) : snap m H 7 (.i k n) = some (.i k n) := by simp [snap]
theorem sn7_b (m : SM) (H : Heap) (x : Bool) : snap m H 7 (.b x) = some (.b x) := by simp [snap]
def slB : Option AObj → SM → Heap → Nat → Nat → Nat → Bool → Nat → Option TV
  | some (.cells c _), m, H, f, off, sz, ag, len => if off + len * sz ≤ c.length ∧ (ag = true ∨ sz = 1) then (mapO (snap m H f) (elems sz ag len ((c.drop off).take (len * sz)))).map fun es => .bs (m == .borrow) sz es else none
  | _, _, _, _, _, _, _, _ => none
theorem sn_sl (m : SM) (hm : m ≠ .keep) (H : Heap) (id off sz : Nat) (ag : Bool) (len : Nat) (cap : Option Nat) : snap m H 9 (.sl id off sz ag len cap) = slB H[id]? m H 8 off sz ag len := by
  rw [snap]
  simp only [if_neg hm, slB]
  cases H[id]? with
  | none => rfl
  | some o => cases o <;> rfl
theorem sn8_sl (m : SM) (hm : m ≠ .keep) (H : Heap) (id off sz : Nat) (ag : Bool) (len : Nat) (cap : Option Nat) : snap m H 8 (.sl id off sz ag len cap) = slB H[id]? m H 7 off sz ag len := by
  rw [snap]
  simp only [if_neg hm, slB]
  cases H[id]? with
  | none => rfl
  | some o => cases o <;> rfl
theorem slB_some (c : List TV) (ag' : Bool) (m : SM) (H : Heap) (f off sz : Nat) (ag : Bool) (len : Nat) : slB (some (.cells c ag')) m H f off sz ag len = if off + len * sz ≤ c.length ∧ (ag = true ∨ sz = 1) then (mapO (snap m H f) (elems sz ag len ((c.drop off).take (len * sz)))).map fun es => .bs (m == .borrow) sz es else none := rfl
theorem sn_tup (m : SM) (H : Heap) (l : List TV) : snap m H 9 (.tup l) = (mapO (snap m H 8) l).map .tup := by rw [snap]
theorem sn_agg (m : SM) (H : Heap) (l : List TV) : snap m H 9 (.agg l) = (mapO (snap m H 8) l).map .agg := by rw [snap]
theorem sn8_agg (m : SM) (H : Heap) (l : List TV) : snap m H 8 (.agg l) = (mapO (snap m H 7) l).map .agg := by rw [snap]

theorem setLast (H : Heap) (x y : AObj) : (H ++ [x]).set H.length y = H ++ [y] := by simp
theorem getLast (H : Heap) (x : AObj) : (H ++ [x])[H.length]? = some x := by simp

end Go.Dn

/-
  Pure calls known by what they answer, and lines as values.
-/

namespace Go.Proofs.Try.Dn
open Go.Dn

/-- a call as a function of values answers so -/
def Fn (pg : Pg) (f : Nat) (xs : List TV) (r : TV) : Prop :=
  pg.S f xs = some r ∨ pg.S f xs = none ∧ ∃ r' H', bodyRun pg (den pg) f xs [] = some (r', H') ∧ snap .fin H' 9 r' = some r

theorem Fn.call {pg : Pg} {f : Nat} {xs : List TV} {r : TV} (h : Fn pg f xs r) {ks : List Bool} {fs cs args : List TV} {H : Heap} (ha : snapArgs H ks (fs ++ args ++ cs) = some xs) :
    callRun pg (den pg) (.pu ks) (.fn f fs cs :: args) H = some (r, H) := by
  rw [List.append_assoc] at ha
  rcases h with h | ⟨h, r', H', h1, h2⟩
  · simp [callRun, ha, h]
  · simp [callRun, ha, h, h1, h2]

theorem snap_bs (H : Heap) (n : Nat) (b : Bool) (sz : Nat) (es : List TV) : snap .borrow H (n + 1) (.bs b sz es) = (mapO (snap .borrow H n) es).map fun es' => .bs true sz es' := by
  rw [snap]; rfl

/-- lines of a call's own -/
def LT (b : Bool) : List Line → TV
  | [] => .nilsl
  | x :: l => .bs b 3 (lineTV x :: l.map lineTV)

theorem LT_ne {b : Bool} {l : List Line} (h : l ≠ []) : LT b l = .bs b 3 (l.map lineTV) := by cases l <;> simp_all [LT]

theorem LT_len (b : Bool) (l : List Line) (H : Heap) : lenK 0 (LT b l) H = some l.length := by cases l <;> simp [LT, lenK]

theorem LT_ix {b : Bool} {l : List Line} {i : Nat} {x : Line} (h : l[i]? = some x) (H : Heap) : dk (.ixS 3 true) [LT b l, .i .i64 (i : Int)] H = some (.bp b (lineTV x), H) := by
  have : l ≠ [] := by rintro rfl; simp at h
  rw [LT_ne this]
  simp [dk, bound, h]

theorem snap_line (m : SM) (H : Heap) (n : Nat) (x : Line) : snap m H (n + 2) (lineTV x) = some (lineTV x) := by
  simp [lineTV, snap, mapO]

theorem mapO_lines (m : SM) (H : Heap) (n : Nat) : ∀ l : List Line, mapO (snap m H (n + 2)) (l.map lineTV) = some (l.map lineTV)
  | [] => rfl
  | x :: l => by simp [mapO, snap_line, mapO_lines m H n l]

theorem snap_LT (b : Bool) (H : Heap) (l : List Line) : snap .borrow H 9 (LT b l) = some (LT true l) := by
  cases l with
  | nil => simp [LT, snap]
  | cons x l =>
    have := mapO_lines .borrow H 6 (x :: l)
    simp only [List.map_cons] at this
    simp only [LT, snap_bs, this, Option.map_some]

theorem snap_int (m : SM) (H : Heap) (k : IntKind) (n : Int) : snap m H 9 (.i k n) = some (.i k n) := by simp [snap]

end Go.Proofs.Try.Dn

/-
  The reference's Check: its rounds.
-/

namespace Go.Proofs.Try.Dn
open Go.Dn

/-- all three are holes -/
def inside (n : Int) (x : Line) : Bool := decide (0 ≤ x.1) && decide (x.1 < n) && decide (0 ≤ x.2.1) && decide (x.2.1 < n) && decide (0 ≤ x.2.2) && decide (x.2.2 < n)

theorem l46_in {pg : Pg} {H : Heap} {id : Nat} {n : Int} {i t : TV} {x : Line} (hc : H[id]? = some (.cells [.i .i64 x.1, .i .i64 x.2.1, .i .i64 x.2.2] true)) (h : inside n x = true) :
    den pg l46_1 [(0, .i .i64 n), (1, t), (5, i), (6, .ref id 0), (7, .i .i64 0)] H = some ⟨.exit 2, [(0, .i .i64 n), (1, t), (5, i), (6, .ref id 0), (7, .i .i64 3), (28, .b false)], H⟩ := by
  obtain ⟨a, b, c⟩ := x
  simp only [inside, Bool.and_eq_true, decide_eq_true_eq] at h
  obtain ⟨⟨⟨⟨⟨h1, h2⟩, h3⟩, h4⟩, h5⟩, h6⟩ := h
  exact (l46_step (k := 0) (by omega) hc rfl h1 h2).trans ((l46_step (k := 1) (by omega) hc rfl h3 h4).trans ((l46_step (k := 2) (by omega) hc rfl h5 h6).trans l46_end))

theorem l46_out {pg : Pg} {H : Heap} {id : Nat} {n : Int} {i t : TV} {x : Line} (hc : H[id]? = some (.cells [.i .i64 x.1, .i .i64 x.2.1, .i .i64 x.2.2] true)) (h : inside n x = false) :
    den pg l46_1 [(0, .i .i64 n), (1, t), (5, i), (6, .ref id 0), (7, .i .i64 0)] H = some ⟨.ret, [(4, .i .i64 20)], H⟩ := by
  obtain ⟨a, b, c⟩ := x
  by_cases h1 : 0 ≤ a
  · by_cases h2 : a < n
    · refine (l46_step (k := 0) (by omega) hc rfl h1 h2).trans ?_
      by_cases h3 : 0 ≤ b
      · by_cases h4 : b < n
        · refine (l46_step (k := 1) (by omega) hc rfl h3 h4).trans ?_
          by_cases h5 : 0 ≤ c
          · by_cases h6 : c < n
            · simp [inside, h1, h2, h3, h4, h5, h6] at h
            · exact l46_high (k := 2) (by omega) hc rfl h5 (by first | omega | (simp only; omega))
          · exact l46_low (k := 2) (by omega) hc rfl (by first | omega | (simp only; omega))
        · exact l46_high (k := 1) (by omega) hc rfl h3 (by first | omega | (simp only; omega))
      · exact l46_low (k := 1) (by omega) hc rfl (by first | omega | (simp only; omega))
    · exact l46_high (k := 0) (by omega) hc rfl h1 (by first | omega | (simp only; omega))
  · exact l46_low (k := 0) (by omega) hc rfl (by first | omega | (simp only; omega))

/-- known answers are not in the way -/
structure Free (pg : Pg) : Prop where
  F : pg.F = tab.look
  S : ∀ f xs, f ≠ 22 → pg.S f xs = none

theorem fn64 {pg : Pg} (h : Free pg) (a b : Line) : Fn pg 64 [lineTV a, lineTV b] (.b (lt3 a b)) := by
  obtain ⟨H, hH⟩ := run64 (pg := pg) (by rw [h.F]; rfl) a b
  exact .inr ⟨h.S _ _ (by decide), _, _, hH, by simp [snap]⟩

theorem call64 {pg : Pg} (h : Free pg) (a0 a1 a2 b0 b1 b2 : Int) (H : Heap) : callRun pg (den pg) (.pu []) [.fn 64 [] [], .agg [.i .i64 a0, .i .i64 a1, .i .i64 a2], .agg [.i .i64 b0, .i .i64 b1, .i .i64 b2]] H = some (.b (lt3 (a0, a1, a2) (b0, b1, b2)), H) :=
  (fn64 h (a0, a1, a2) (b0, b1, b2)).call (args := [lineTV (a0, a1, a2), lineTV (b0, b1, b2)]) (by simp [snapArgs, snap_line, lineTV, snap, mapO])

theorem getLt {l : List Line} {i : Nat} {x : Line} (h : l[i]? = some x) : i < l.length := (List.getElem?_eq_some_iff.1 h).1

theorem l46_stop {pg : Pg} {H : Heap} {n : Int} {b : Bool} {l : List Line} {i : Nat} (hi : ¬ i < l.length) :
    den pg l46_3 [(0, .i .i64 n), (1, LT b l), (5, .i .i64 i)] H = some ⟨.exit 0, [(0, .i .i64 n), (1, LT b l), (5, .i .i64 i), (20, .b false)], H⟩ := by
  have e1 : ¬ ((i : Int) < (l.length : Int)) := by omega
  rw [l46_3, den_loop]
  simp [b46_2, go_nil, go_last, go_past, go_pastR, go_blkN, go_blkR, go_blkE, go_skip, go_exit, go_ret, go_scope, go_seq, go_reg, go_block, go_cond, cnd_b, go_opsN, go_ops, go_opsG, grd_b, grd_u, stp_some, fin_some, up_some, cont_some, k_call, k_mv, k_pick, k_bin, k_eqB, k_eqA, k_not, k_neg, k_conv, k_alloc, k_boxA, k_boxI, k_boxB, k_boxN, k_boxBs, k_ldR, k_ldA, k_ldI, k_ldB, k_stA, k_stI, k_stB, ldC_some, stC_some, k_mkfn, k_slc, k_slcA, k_ixA, k_ixBs, k_ixSl, k_fadr, k_fld, k_ext, k_len, k_app, k_mn, k_mx, k_nilck, k_build, k_bsl1, k_bsl2, b_add, b_sub, b_mul, b_eql, b_neq, b_lss, b_leq, b_gtr, b_geq, Dn.setLast, Dn.getLast, evalO, mapO, Dn.get, putE, keepE, TV.one, TV.isAgg, Dn.part, LT_len, e1]

theorem LT_getne {l : List Line} {i : Nat} {x : Line} (h : l[i]? = some x) : l ≠ [] := by rintro rfl; simp at h

/-- a line's cells -/
def cl (x : Line) : AObj := .cells [.i .i64 x.1, .i .i64 x.2.1, .i .i64 x.2.2] true

end Go.Proofs.Try.Dn

namespace Go.Proofs.Try.Dn
open Go.Dn

theorem l46_out' {pg : Pg} {H : Heap} {n : Int} {b : Bool} {l : List Line} {i : Nat} {x : Line} (hi : l[i]? = some x) (h : inside n x = false) :
    den pg l46_3 [(0, .i .i64 n), (1, LT b l), (5, .i .i64 i)] H = some ⟨.ret, [(4, .i .i64 20)], H ++ [cl x]⟩ := by
  have hl := getLt hi
  have e1 : ((i : Int) < (l.length : Int)) := by omega
  have hin := l46_out (pg := pg) (t := LT b l) (i := .i .i64 i) (getLast H (.cells [.i .i64 x.1, .i .i64 x.2.1, .i .i64 x.2.2] true)) h
  rw [LT_ne (LT_getne hi)] at hin ⊢
  rw [l46_3, den_loop]
  simp [l46_3, b46_2, go_nil, go_last, go_past, go_pastR, go_blkN, go_blkR, go_blkE, go_skip, go_exit, go_ret, go_scope, go_seq, go_reg, go_block, go_cond, cnd_b, go_opsN, go_ops, go_opsG, grd_b, grd_u, stp_some, fin_some, up_some, cont_some, k_call, k_mv, k_pick, k_bin, k_eqB, k_eqA, k_not, k_neg, k_conv, k_alloc, k_boxA, k_boxI, k_boxB, k_boxN, k_boxBs, k_ldR, k_ldA, k_ldI, k_ldB, k_stA, k_stI, k_stB, ldC_some, stC_some, k_mkfn, k_slc, k_slcA, k_ixA, k_ixBs, k_ixSl, k_fadr, k_fld, k_ext, k_len, k_app, k_mn, k_mx, k_nilck, k_build, k_bsl1, k_bsl2, b_add, b_sub, b_mul, b_eql, b_neq, b_lss, b_leq, b_gtr, b_geq, Dn.setLast, Dn.getLast, evalO, mapO, Dn.get, putE, keepE, TV.one, TV.isAgg, Dn.part, go_den l46_1, lenK, e1, hi, lineTV, put2, hin, cl]

/-- what else can be wrong with a line -/
def odd (i : Nat) (q x : Line) : Bool := decide (x.2.2 ≤ x.1) || decide (x.2.1 = x.1) || decide (x.2.1 = x.2.2) || (decide (0 < i) && !lt3 q x)

theorem l46_in' {pg : Pg} (hF : Free pg) {H : Heap} {n : Int} {b : Bool} {l : List Line} {i : Nat} {x q : Line} (hm : l.length ≤ 40) (hi : l[i]? = some x) (hq : 0 < i → l[i - 1]? = some q) (h : inside n x = true) :
    den pg l46_3 [(0, .i .i64 n), (1, LT b l), (5, .i .i64 i)] H = if odd i q x = true then some ⟨.ret, [(4, .i .i64 20)], H ++ [cl x]⟩ else den pg l46_3 [(0, .i .i64 n), (1, LT b l), (5, .i .i64 ((i + 1 : Nat) : Int))] (H ++ [cl x]) := by
  have hl := getLt hi
  have e1 : ((i : Int) < (l.length : Int)) := by omega
  have e2 : wrapR .i64 ((i : Int) + 1) = .i .i64 ((i : Int) + 1) := wrapR_i64 (by omega)
  have e3 : wrapR .i64 ((i : Int) - 1) = .i .i64 ((i : Int) - 1) := wrapR_i64 (by omega)
  have e4 : ((i : Int) - 1).toNat = i - 1 := by omega
  have hin := l46_in (pg := pg) (t := LT b l) (i := .i .i64 i) (getLast H (.cells [.i .i64 x.1, .i .i64 x.2.1, .i .i64 x.2.2] true)) h
  rw [LT_ne (LT_getne hi)] at hin ⊢
  by_cases c1 : x.2.2 ≤ x.1
  · have : odd i q x = true := by simp [odd, c1]
    rw [if_pos this, l46_3, den_loop]
    simp [l46_3, b46_2, go_nil, go_last, go_past, go_pastR, go_blkN, go_blkR, go_blkE, go_skip, go_exit, go_ret, go_scope, go_seq, go_reg, go_block, go_cond, cnd_b, go_opsN, go_ops, go_opsG, grd_b, grd_u, stp_some, fin_some, up_some, cont_some, k_call, k_mv, k_pick, k_bin, k_eqB, k_eqA, k_not, k_neg, k_conv, k_alloc, k_boxA, k_boxI, k_boxB, k_boxN, k_boxBs, k_ldR, k_ldA, k_ldI, k_ldB, k_stA, k_stI, k_stB, ldC_some, stC_some, k_mkfn, k_slc, k_slcA, k_ixA, k_ixBs, k_ixSl, k_fadr, k_fld, k_ext, k_len, k_app, k_mn, k_mx, k_nilck, k_build, k_bsl1, k_bsl2, b_add, b_sub, b_mul, b_eql, b_neq, b_lss, b_leq, b_gtr, b_geq, Dn.setLast, Dn.getLast, evalO, mapO, Dn.get, putE, keepE, TV.one, TV.isAgg, Dn.part, go_den l46_1, lenK, e1, hi, lineTV, put2, hin, cl, c1]
  by_cases c2 : x.2.1 = x.1
  · have : odd i q x = true := by simp [odd, c2]
    have c2' : (x.2.1 == x.1) = true := by simp [c2]
    rw [if_pos this, l46_3, den_loop]
    simp [l46_3, b46_2, go_nil, go_last, go_past, go_pastR, go_blkN, go_blkR, go_blkE, go_skip, go_exit, go_ret, go_scope, go_seq, go_reg, go_block, go_cond, cnd_b, go_opsN, go_ops, go_opsG, grd_b, grd_u, stp_some, fin_some, up_some, cont_some, k_call, k_mv, k_pick, k_bin, k_eqB, k_eqA, k_not, k_neg, k_conv, k_alloc, k_boxA, k_boxI, k_boxB, k_boxN, k_boxBs, k_ldR, k_ldA, k_ldI, k_ldB, k_stA, k_stI, k_stB, ldC_some, stC_some, k_mkfn, k_slc, k_slcA, k_ixA, k_ixBs, k_ixSl, k_fadr, k_fld, k_ext, k_len, k_app, k_mn, k_mx, k_nilck, k_build, k_bsl1, k_bsl2, b_add, b_sub, b_mul, b_eql, b_neq, b_lss, b_leq, b_gtr, b_geq, Dn.setLast, Dn.getLast, evalO, mapO, Dn.get, putE, keepE, TV.one, TV.isAgg, Dn.part, go_den l46_1, lenK, e1, hi, lineTV, put2, hin, cl, c1, c2']
  by_cases c3 : x.2.1 = x.2.2
  · have : odd i q x = true := by simp [odd, c3]
    have c3' : (x.2.1 == x.2.2) = true := by simp [c3]
    rw [if_pos this, l46_3, den_loop]
    simp [l46_3, b46_2, go_nil, go_last, go_past, go_pastR, go_blkN, go_blkR, go_blkE, go_skip, go_exit, go_ret, go_scope, go_seq, go_reg, go_block, go_cond, cnd_b, go_opsN, go_ops, go_opsG, grd_b, grd_u, stp_some, fin_some, up_some, cont_some, k_call, k_mv, k_pick, k_bin, k_eqB, k_eqA, k_not, k_neg, k_conv, k_alloc, k_boxA, k_boxI, k_boxB, k_boxN, k_boxBs, k_ldR, k_ldA, k_ldI, k_ldB, k_stA, k_stI, k_stB, ldC_some, stC_some, k_mkfn, k_slc, k_slcA, k_ixA, k_ixBs, k_ixSl, k_fadr, k_fld, k_ext, k_len, k_app, k_mn, k_mx, k_nilck, k_build, k_bsl1, k_bsl2, b_add, b_sub, b_mul, b_eql, b_neq, b_lss, b_leq, b_gtr, b_geq, Dn.setLast, Dn.getLast, evalO, mapO, Dn.get, putE, keepE, TV.one, TV.isAgg, Dn.part, go_den l46_1, lenK, e1, hi, lineTV, put2, hin, cl, c1, c2, c3']
  by_cases c4 : 0 < i
  · have c4' : (0 : Int) < i := by omega
    have c4'' : (0 : Int) ≤ (i : Int) - 1 := by omega
    have c4a : (1 : Int) ≤ (i : Int) := by omega
    by_cases c5 : lt3 q x = true
    · have : ¬ odd i q x = true := by simp [odd, c1, c2, c3, c4, c5]
      rw [if_neg this, l46_3, den_loop]
      simp [l46_3, b46_2, go_nil, go_last, go_past, go_pastR, go_blkN, go_blkR, go_blkE, go_skip, go_exit, go_ret, go_scope, go_seq, go_reg, go_block, go_cond, cnd_b, go_opsN, go_ops, go_opsG, grd_b, grd_u, stp_some, fin_some, up_some, cont_some, k_call, k_mv, k_pick, k_bin, k_eqB, k_eqA, k_not, k_neg, k_conv, k_alloc, k_boxA, k_boxI, k_boxB, k_boxN, k_boxBs, k_ldR, k_ldA, k_ldI, k_ldB, k_stA, k_stI, k_stB, ldC_some, stC_some, k_mkfn, k_slc, k_slcA, k_ixA, k_ixBs, k_ixSl, k_fadr, k_fld, k_ext, k_len, k_app, k_mn, k_mx, k_nilck, k_build, k_bsl1, k_bsl2, b_add, b_sub, b_mul, b_eql, b_neq, b_lss, b_leq, b_gtr, b_geq, Dn.setLast, Dn.getLast, evalO, mapO, Dn.get, putE, keepE, TV.one, TV.isAgg, Dn.part, go_den l46_1, lenK, e1, hi, lineTV, put2, hin, cl, c1, c2, c3, c4, c4', e3, e4, hq c4, call64 hF, c5, e2, c4'', c4a, l46_3]
    · have : odd i q x = true := by simp [odd, c4, c5]
      rw [if_pos this, l46_3, den_loop]
      simp [l46_3, b46_2, go_nil, go_last, go_past, go_pastR, go_blkN, go_blkR, go_blkE, go_skip, go_exit, go_ret, go_scope, go_seq, go_reg, go_block, go_cond, cnd_b, go_opsN, go_ops, go_opsG, grd_b, grd_u, stp_some, fin_some, up_some, cont_some, k_call, k_mv, k_pick, k_bin, k_eqB, k_eqA, k_not, k_neg, k_conv, k_alloc, k_boxA, k_boxI, k_boxB, k_boxN, k_boxBs, k_ldR, k_ldA, k_ldI, k_ldB, k_stA, k_stI, k_stB, ldC_some, stC_some, k_mkfn, k_slc, k_slcA, k_ixA, k_ixBs, k_ixSl, k_fadr, k_fld, k_ext, k_len, k_app, k_mn, k_mx, k_nilck, k_build, k_bsl1, k_bsl2, b_add, b_sub, b_mul, b_eql, b_neq, b_lss, b_leq, b_gtr, b_geq, Dn.setLast, Dn.getLast, evalO, mapO, Dn.get, putE, keepE, TV.one, TV.isAgg, Dn.part, go_den l46_1, lenK, e1, hi, lineTV, put2, hin, cl, c1, c2, c3, c4, c4', e3, e4, hq c4, call64 hF, c5, e2, c4'', c4a, l46_3]
  · have : ¬ odd i q x = true := by simp [odd, c1, c2, c3, c4]
    have c4' : ¬ (0 : Int) < i := by omega
    rw [if_neg this, l46_3, den_loop]
    simp [l46_3, b46_2, go_nil, go_last, go_past, go_pastR, go_blkN, go_blkR, go_blkE, go_skip, go_exit, go_ret, go_scope, go_seq, go_reg, go_block, go_cond, cnd_b, go_opsN, go_ops, go_opsG, grd_b, grd_u, stp_some, fin_some, up_some, cont_some, k_call, k_mv, k_pick, k_bin, k_eqB, k_eqA, k_not, k_neg, k_conv, k_alloc, k_boxA, k_boxI, k_boxB, k_boxN, k_boxBs, k_ldR, k_ldA, k_ldI, k_ldB, k_stA, k_stI, k_stB, ldC_some, stC_some, k_mkfn, k_slc, k_slcA, k_ixA, k_ixBs, k_ixSl, k_fadr, k_fld, k_ext, k_len, k_app, k_mn, k_mx, k_nilck, k_build, k_bsl1, k_bsl2, b_add, b_sub, b_mul, b_eql, b_neq, b_lss, b_leq, b_gtr, b_geq, Dn.setLast, Dn.getLast, evalO, mapO, Dn.get, putE, keepE, TV.one, TV.isAgg, Dn.part, go_den l46_1, lenK, e1, hi, lineTV, put2, hin, cl, c1, c2, c3, c4, c4', e2, l46_3]

end Go.Proofs.Try.Dn

/-
  The reference's Check answers as 'chk' says.
-/

namespace Go.Proofs.Try.Dn
open Go.Dn

theorem Fn.of_go {pg : Pg} {f : Nat} {xs : List TV} {d : DFun} {x : Ex} {e : Env} {H' : Heap} {vs : List TV} {r : TV} (hS : pg.S f xs = none) (hd : pg.F f = some d) (hl : xs.length = d.np)
    (ho : go pg (den pg) [.c d.body] .normal (zipE xs 0) [] = some ⟨x, e, H'⟩) (hx : x = .ret ∨ x = .normal) (hv : mapO (resRun e H') d.res = some vs) (hs : snap .fin H' 9 (tupR vs) = some r) : Fn pg f xs r := by
  refine .inr ⟨hS, _, _, bodyRun_of (o := ⟨x, e, H'⟩) hd hl (by rw [runC_go]; exact ho) ?_ hv, hs⟩
  intro id
  rcases hx with rfl | rfl <;> simp

theorem Fn.of1 {pg : Pg} {f : Nat} {xs : List TV} {d : DFun} {x : Ex} {e : Env} {H' : Heap} {r : TV} (hS : pg.S f xs = none) (hd : pg.F f = some d) (hl : xs.length = d.np)
    (ho : go pg (den pg) [.c d.body] .normal (zipE xs 0) [] = some ⟨x, e, H'⟩) (hx : x = .ret ∨ x = .normal) (hv : mapO (resRun e H') d.res = some [r]) (hs : snap .fin H' 9 r = some r) : Fn pg f xs r :=
  .of_go hS hd hl ho hx hv hs

theorem snap_b (m : SM) (H : Heap) (x : Bool) : snap m H 9 (.b x) = some (.b x) := by simp [snap]

/-- the line before -/
def prev (l : List Line) : Nat → Option Line
  | 0 => none
  | i + 1 => l[i]?

/-- not behind the line before -/
def worse : Option Line → Line → Bool
  | none, _ => false
  | some q, x => !lt3 q x

def IsPrev (i : Nat) (q : Line) : Option Line → Prop
  | none => i = 0
  | some y => 0 < i ∧ y = q

theorem bad_iff {n : Int} {p : Option Line} {i : Nat} {x q : Line} (hp : IsPrev i q p) : (lineBad n x || worse p x) = (!inside n x || odd i q x) := by
  rw [Bool.eq_iff_iff]
  cases p with
  | none =>
    have hp : i = 0 := hp
    subst hp
    simp [lineBad, inside, odd, worse]
    omega
  | some y =>
    obtain ⟨h, rfl⟩ := hp
    simp [lineBad, inside, odd, worse, h]
    cases lt3 y x <;> simp <;> omega

theorem chkFrom_cons (n : Int) (p : Option Line) (x : Line) (l : List Line) : chkFrom n p (x :: l) = if (lineBad n x || worse p x) = true then 20 else chkFrom n (some x) l := by
  cases p <;> rfl

theorem l46_all {pg : Pg} (hF : Free pg) {n : Int} {b : Bool} {l : List Line} (hm : l.length ≤ 40) : ∀ (k i : Nat) (H : Heap), i + k = l.length →
    ∃ x e H', den pg l46_3 [(0, .i .i64 n), (1, LT b l), (5, .i .i64 i)] H = some ⟨x, e, H'⟩ ∧ (x = .exit 0 ∧ chkFrom n (prev l i) (l.drop i) = 0 ∨ x = .ret ∧ e = [(4, .i .i64 20)] ∧ chkFrom n (prev l i) (l.drop i) = 20)
  | 0, i, H, h => by
    refine ⟨_, _, _, l46_stop (by omega), .inl ⟨rfl, ?_⟩⟩
    rw [List.drop_eq_nil_of_le (by omega)]
    unfold chkFrom; rfl
  | k + 1, i, H, h => by
    have hi : i < l.length := by omega
    have hx : l[i]? = some l[i] := List.getElem?_eq_getElem hi
    have hd : l.drop i = l[i] :: l.drop (i + 1) := List.drop_eq_getElem_cons hi
    obtain ⟨q, hq, hp⟩ : ∃ q, (0 < i → l[i - 1]? = some q) ∧ IsPrev i q (prev l i) := by
      cases i with
      | zero => exact ⟨(0, 0, 0), fun h => by omega, rfl⟩
      | succ i =>
        have : l[i]? = some l[i] := List.getElem?_eq_getElem (by omega)
        refine ⟨l[i], fun _ => this, ?_⟩
        have h2 : IsPrev (i + 1) l[i] (some l[i]) := ⟨by omega, rfl⟩
        rw [← this] at h2
        exact h2
    have hbad := bad_iff (n := n) (x := l[i]) hp
    rw [hd, chkFrom_cons, hbad]
    by_cases hin : inside n l[i] = true
    · have hstep := l46_in' hF (H := H) (b := b) hm hx hq hin
      by_cases ho : odd i q l[i] = true
      · rw [if_pos ho] at hstep
        exact ⟨_, _, _, hstep, .inr ⟨rfl, rfl, by simp [ho]⟩⟩
      · rw [if_neg ho] at hstep
        obtain ⟨x, e, H', h1, h2⟩ := l46_all hF hm k (i + 1) (H ++ [cl l[i]]) (by omega)
        refine ⟨x, e, H', hstep.trans h1, ?_⟩
        rw [if_neg (by simp [hin, ho])]
        have : prev l (i + 1) = some l[i] := hx
        rw [this] at h2
        exact h2
    · have hin' : inside n l[i] = false := by simpa using hin
      exact ⟨_, _, _, l46_out' hx hin', .inr ⟨rfl, rfl, by simp [hin']⟩⟩

theorem fn46 {pg : Pg} (hF : Free pg) (n : Int) (b : Bool) (l : List Line) : Fn pg 46 [.i .i64 n, LT b l] (.i .i64 (chk n l)) := by
  have hd : pg.F 46 = some d46 := by rw [hF.F]; rfl
  have hS := hF.S 46 [.i .i64 n, LT b l] (by decide)
  by_cases h1 : n < 1
  · refine .of_go hS hd rfl (x := .ret) (e := [(4, .i .i64 1)]) (H' := []) ?_ (.inl rfl) rfl (by simp [snap, chk, h1, tupR])
    simp [d46, c46, zipE, go_nil, go_last, go_past, go_pastR, go_blkN, go_blkR, go_blkE, go_skip, go_exit, go_ret, go_scope, go_seq, go_reg, go_block, go_cond, cnd_b, go_opsN, go_ops, go_opsG, grd_b, grd_u, stp_some, fin_some, up_some, cont_some, k_call, k_mv, k_pick, k_bin, k_eqB, k_eqA, k_not, k_neg, k_conv, k_alloc, k_boxA, k_boxI, k_boxB, k_boxN, k_boxBs, k_ldR, k_ldA, k_ldI, k_ldB, k_stA, k_stI, k_stB, ldC_some, stC_some, k_mkfn, k_slc, k_slcA, k_ixA, k_ixBs, k_ixSl, k_fadr, k_fld, k_ext, k_len, k_app, k_mn, k_mx, k_nilck, k_build, k_bsl1, k_bsl2, b_add, b_sub, b_mul, b_eql, b_neq, b_lss, b_leq, b_gtr, b_geq, Dn.setLast, Dn.getLast, evalO, mapO, Dn.get, putE, keepE, TV.one, TV.isAgg, Dn.part, h1]
  by_cases h2 : 16 < n
  · refine .of_go hS hd rfl (x := .ret) (e := [(4, .i .i64 1)]) (H' := []) ?_ (.inl rfl) rfl (by simp [snap, chk, h2, tupR])
    simp [d46, c46, zipE, go_nil, go_last, go_past, go_pastR, go_blkN, go_blkR, go_blkE, go_skip, go_exit, go_ret, go_scope, go_seq, go_reg, go_block, go_cond, cnd_b, go_opsN, go_ops, go_opsG, grd_b, grd_u, stp_some, fin_some, up_some, cont_some, k_call, k_mv, k_pick, k_bin, k_eqB, k_eqA, k_not, k_neg, k_conv, k_alloc, k_boxA, k_boxI, k_boxB, k_boxN, k_boxBs, k_ldR, k_ldA, k_ldI, k_ldB, k_stA, k_stI, k_stB, ldC_some, stC_some, k_mkfn, k_slc, k_slcA, k_ixA, k_ixBs, k_ixSl, k_fadr, k_fld, k_ext, k_len, k_app, k_mn, k_mx, k_nilck, k_build, k_bsl1, k_bsl2, b_add, b_sub, b_mul, b_eql, b_neq, b_lss, b_leq, b_gtr, b_geq, Dn.setLast, Dn.getLast, evalO, mapO, Dn.get, putE, keepE, TV.one, TV.isAgg, Dn.part, h1, h2]
  by_cases h3 : 40 < l.length
  · have h3' : (40 : Int) < l.length := by omega
    refine .of_go hS hd rfl (x := .ret) (e := [(4, .i .i64 2)]) (H' := []) ?_ (.inl rfl) rfl (by simp [snap, chk, h1, h2, h3, tupR])
    simp [d46, c46, zipE, go_nil, go_last, go_past, go_pastR, go_blkN, go_blkR, go_blkE, go_skip, go_exit, go_ret, go_scope, go_seq, go_reg, go_block, go_cond, cnd_b, go_opsN, go_ops, go_opsG, grd_b, grd_u, stp_some, fin_some, up_some, cont_some, k_call, k_mv, k_pick, k_bin, k_eqB, k_eqA, k_not, k_neg, k_conv, k_alloc, k_boxA, k_boxI, k_boxB, k_boxN, k_boxBs, k_ldR, k_ldA, k_ldI, k_ldB, k_stA, k_stI, k_stB, ldC_some, stC_some, k_mkfn, k_slc, k_slcA, k_ixA, k_ixBs, k_ixSl, k_fadr, k_fld, k_ext, k_len, k_app, k_mn, k_mx, k_nilck, k_build, k_bsl1, k_bsl2, b_add, b_sub, b_mul, b_eql, b_neq, b_lss, b_leq, b_gtr, b_geq, Dn.setLast, Dn.getLast, evalO, mapO, Dn.get, putE, keepE, TV.one, TV.isAgg, Dn.part, h1, h2, LT_len, h3, h3']
  · have h3' : ¬ (40 : Int) < l.length := by omega
    obtain ⟨x, e, H', h4, h5⟩ := l46_all hF (n := n) (b := b) (l := l) (by omega) l.length 0 [] (by omega)
    simp only [List.drop_zero, prev] at h5
    rcases h5 with ⟨rfl, h5⟩ | ⟨rfl, rfl, h5⟩
    · refine .of_go hS hd rfl (x := .ret) (e := [(4, .i .i64 0)]) (H' := H') ?_ (.inl rfl) rfl (by simp [snap, chk, h1, h2, h3, h5, tupR])
      simp [d46, c46, zipE, go_nil, go_last, go_past, go_pastR, go_blkN, go_blkR, go_blkE, go_skip, go_exit, go_ret, go_scope, go_seq, go_reg, go_block, go_cond, cnd_b, go_opsN, go_ops, go_opsG, grd_b, grd_u, stp_some, fin_some, up_some, cont_some, k_call, k_mv, k_pick, k_bin, k_eqB, k_eqA, k_not, k_neg, k_conv, k_alloc, k_boxA, k_boxI, k_boxB, k_boxN, k_boxBs, k_ldR, k_ldA, k_ldI, k_ldB, k_stA, k_stI, k_stB, ldC_some, stC_some, k_mkfn, k_slc, k_slcA, k_ixA, k_ixBs, k_ixSl, k_fadr, k_fld, k_ext, k_len, k_app, k_mn, k_mx, k_nilck, k_build, k_bsl1, k_bsl2, b_add, b_sub, b_mul, b_eql, b_neq, b_lss, b_leq, b_gtr, b_geq, Dn.setLast, Dn.getLast, evalO, mapO, Dn.get, putE, keepE, TV.one, TV.isAgg, Dn.part, h1, h2, LT_len, h3, h3', go_den l46_3]
      simp at h4
      simp [h4, go_nil, go_last, go_past, go_pastR, go_blkN, go_blkR, go_blkE, go_skip, go_exit, go_ret, go_scope, go_seq, go_reg, go_block, go_cond, cnd_b, go_opsN, go_ops, go_opsG, grd_b, grd_u, stp_some, fin_some, up_some, cont_some, k_call, k_mv, k_pick, k_bin, k_eqB, k_eqA, k_not, k_neg, k_conv, k_alloc, k_boxA, k_boxI, k_boxB, k_boxN, k_boxBs, k_ldR, k_ldA, k_ldI, k_ldB, k_stA, k_stI, k_stB, ldC_some, stC_some, k_mkfn, k_slc, k_slcA, k_ixA, k_ixBs, k_ixSl, k_fadr, k_fld, k_ext, k_len, k_app, k_mn, k_mx, k_nilck, k_build, k_bsl1, k_bsl2, b_add, b_sub, b_mul, b_eql, b_neq, b_lss, b_leq, b_gtr, b_geq, Dn.setLast, Dn.getLast, evalO, mapO, Dn.get, putE, keepE, TV.one, TV.isAgg, Dn.part]
    · refine .of_go hS hd rfl (x := .ret) (e := [(4, .i .i64 20)]) (H' := H') ?_ (.inl rfl) rfl (by simp [snap, chk, h1, h2, h3, h5, tupR])
      simp [d46, c46, zipE, go_nil, go_last, go_past, go_pastR, go_blkN, go_blkR, go_blkE, go_skip, go_exit, go_ret, go_scope, go_seq, go_reg, go_block, go_cond, cnd_b, go_opsN, go_ops, go_opsG, grd_b, grd_u, stp_some, fin_some, up_some, cont_some, k_call, k_mv, k_pick, k_bin, k_eqB, k_eqA, k_not, k_neg, k_conv, k_alloc, k_boxA, k_boxI, k_boxB, k_boxN, k_boxBs, k_ldR, k_ldA, k_ldI, k_ldB, k_stA, k_stI, k_stB, ldC_some, stC_some, k_mkfn, k_slc, k_slcA, k_ixA, k_ixBs, k_ixSl, k_fadr, k_fld, k_ext, k_len, k_app, k_mn, k_mx, k_nilck, k_build, k_bsl1, k_bsl2, b_add, b_sub, b_mul, b_eql, b_neq, b_lss, b_leq, b_gtr, b_geq, Dn.setLast, Dn.getLast, evalO, mapO, Dn.get, putE, keepE, TV.one, TV.isAgg, Dn.part, h1, h2, LT_len, h3, h3', go_den l46_3]
      simp at h4
      simp [h4, go_nil, go_last, go_past, go_pastR, go_blkN, go_blkR, go_blkE, go_skip, go_exit, go_ret, go_scope, go_seq, go_reg, go_block, go_cond, cnd_b, go_opsN, go_ops, go_opsG, grd_b, grd_u, stp_some, fin_some, up_some, cont_some, k_call, k_mv, k_pick, k_bin, k_eqB, k_eqA, k_not, k_neg, k_conv, k_alloc, k_boxA, k_boxI, k_boxB, k_boxN, k_boxBs, k_ldR, k_ldA, k_ldI, k_ldB, k_stA, k_stI, k_stB, ldC_some, stC_some, k_mkfn, k_slc, k_slcA, k_ixA, k_ixBs, k_ixSl, k_fadr, k_fld, k_ext, k_len, k_app, k_mn, k_mx, k_nilck, k_build, k_bsl1, k_bsl2, b_add, b_sub, b_mul, b_eql, b_neq, b_lss, b_leq, b_gtr, b_geq, Dn.setLast, Dn.getLast, evalO, mapO, Dn.get, putE, keepE, TV.one, TV.isAgg, Dn.part]

end Go.Proofs.Try.Dn

/-
  slices.Compare on two lists of three.
-/

namespace Go.Proofs.Try.Dn
open Go.Dn

theorem fn97 {pg : Pg} (hF : Free pg) (v : Int) : Fn pg 97 [.i .i64 v] (.b false) := by
  refine .of1 (x := .ret) (e := [(2, .b false)]) (H' := []) (hF.S _ _ (by decide)) (d := d97) (by rw [hF.F]; rfl) rfl ?_ (.inl rfl) rfl (snap_b _ _ _)
  simp [d97, c97, zipE, go_nil, go_last, go_past, go_pastR, go_blkN, go_blkR, go_blkE, go_skip, go_exit, go_ret, go_scope, go_seq, go_reg, go_block, go_cond, cnd_b, go_opsN, go_ops, go_opsG, grd_b, grd_u, stp_some, fin_some, up_some, cont_some, k_call, k_mv, k_pick, k_bin, k_eqB, k_eqA, k_not, k_neg, k_conv, k_alloc, k_boxA, k_boxI, k_boxB, k_boxN, k_boxBs, k_ldR, k_ldA, k_ldI, k_ldB, k_stA, k_stI, k_stB, ldC_some, stC_some, k_mkfn, k_slc, k_slcA, k_ixA, k_ixBs, k_ixSl, k_fadr, k_fld, k_ext, k_len, k_app, k_mn, k_mx, k_nilck, k_build, k_bsl1, k_bsl2, b_add, b_sub, b_mul, b_eql, b_neq, b_lss, b_leq, b_gtr, b_geq, Dn.setLast, Dn.getLast, evalO, mapO, Dn.get, putE, keepE, TV.one, TV.isAgg, Dn.part]

theorem call97 {pg : Pg} (hF : Free pg) (v : Int) (H : Heap) : callRun pg (den pg) (.pu []) [.fn 97 [] [], .i .i64 v] H = some (.b false, H) :=
  (fn97 hF v).call (args := [.i .i64 v]) (by simp [snapArgs, snap])

def cmpI (a b : Int) : Int := if a < b then -1 else if b < a then 1 else 0

theorem fn83 {pg : Pg} (hF : Free pg) (a b : Int) : Fn pg 83 [.i .i64 a, .i .i64 b] (.i .i64 (cmpI a b)) := by
  refine .of1 (x := .ret) (e := [(4, .i .i64 (cmpI a b))]) (H' := []) (hF.S _ _ (by decide)) (d := d83) (by rw [hF.F]; rfl) rfl ?_ (.inl rfl) rfl (snap_int _ _ _ _)
  by_cases h1 : a < b
  · simp [d83, c83, zipE, go_nil, go_last, go_past, go_pastR, go_blkN, go_blkR, go_blkE, go_skip, go_exit, go_ret, go_scope, go_seq, go_reg, go_block, go_cond, cnd_b, go_opsN, go_ops, go_opsG, grd_b, grd_u, stp_some, fin_some, up_some, cont_some, k_call, k_mv, k_pick, k_bin, k_eqB, k_eqA, k_not, k_neg, k_conv, k_alloc, k_boxA, k_boxI, k_boxB, k_boxN, k_boxBs, k_ldR, k_ldA, k_ldI, k_ldB, k_stA, k_stI, k_stB, ldC_some, stC_some, k_mkfn, k_slc, k_slcA, k_ixA, k_ixBs, k_ixSl, k_fadr, k_fld, k_ext, k_len, k_app, k_mn, k_mx, k_nilck, k_build, k_bsl1, k_bsl2, b_add, b_sub, b_mul, b_eql, b_neq, b_lss, b_leq, b_gtr, b_geq, Dn.setLast, Dn.getLast, evalO, mapO, Dn.get, putE, keepE, TV.one, TV.isAgg, Dn.part, call97 hF, cmpI, h1]
  · by_cases h2 : b < a
    · simp [d83, c83, zipE, go_nil, go_last, go_past, go_pastR, go_blkN, go_blkR, go_blkE, go_skip, go_exit, go_ret, go_scope, go_seq, go_reg, go_block, go_cond, cnd_b, go_opsN, go_ops, go_opsG, grd_b, grd_u, stp_some, fin_some, up_some, cont_some, k_call, k_mv, k_pick, k_bin, k_eqB, k_eqA, k_not, k_neg, k_conv, k_alloc, k_boxA, k_boxI, k_boxB, k_boxN, k_boxBs, k_ldR, k_ldA, k_ldI, k_ldB, k_stA, k_stI, k_stB, ldC_some, stC_some, k_mkfn, k_slc, k_slcA, k_ixA, k_ixBs, k_ixSl, k_fadr, k_fld, k_ext, k_len, k_app, k_mn, k_mx, k_nilck, k_build, k_bsl1, k_bsl2, b_add, b_sub, b_mul, b_eql, b_neq, b_lss, b_leq, b_gtr, b_geq, Dn.setLast, Dn.getLast, evalO, mapO, Dn.get, putE, keepE, TV.one, TV.isAgg, Dn.part, call97 hF, cmpI, h1, h2]
    · simp [d83, c83, zipE, go_nil, go_last, go_past, go_pastR, go_blkN, go_blkR, go_blkE, go_skip, go_exit, go_ret, go_scope, go_seq, go_reg, go_block, go_cond, cnd_b, go_opsN, go_ops, go_opsG, grd_b, grd_u, stp_some, fin_some, up_some, cont_some, k_call, k_mv, k_pick, k_bin, k_eqB, k_eqA, k_not, k_neg, k_conv, k_alloc, k_boxA, k_boxI, k_boxB, k_boxN, k_boxBs, k_ldR, k_ldA, k_ldI, k_ldB, k_stA, k_stI, k_stB, ldC_some, stC_some, k_mkfn, k_slc, k_slcA, k_ixA, k_ixBs, k_ixSl, k_fadr, k_fld, k_ext, k_len, k_app, k_mn, k_mx, k_nilck, k_build, k_bsl1, k_bsl2, b_add, b_sub, b_mul, b_eql, b_neq, b_lss, b_leq, b_gtr, b_geq, Dn.setLast, Dn.getLast, evalO, mapO, Dn.get, putE, keepE, TV.one, TV.isAgg, Dn.part, call97 hF, cmpI, h1, h2]

theorem call83 {pg : Pg} (hF : Free pg) (a b : Int) (H : Heap) : callRun pg (den pg) (.pu []) [.fn 83 [] [], .i .i64 a, .i .i64 b] H = some (.i .i64 (cmpI a b), H) :=
  (fn83 hF a b).call (args := [.i .i64 a, .i .i64 b]) (by simp [snapArgs, snap])

theorem l70_round {pg : Pg} (hF : Free pg) {H : Heap} {k : Nat} {xs ys : List TV} {v u : Int} (hx : xs.length = 3) (hy : ys.length = 3) (h1 : xs[k]? = some (.i .i64 v)) (h2 : ys[k]? = some (.i .i64 u)) :
    den pg l70_1 [(0, .bs true 1 xs), (1, .bs true 1 ys), (9, .bs true 1 xs), (10, .i .i64 3), (11, .i .i64 k)] H =
      if cmpI v u = 0 then den pg l70_1 [(0, .bs true 1 xs), (1, .bs true 1 ys), (9, .bs true 1 xs), (10, .i .i64 3), (11, .i .i64 ((k + 1 : Nat) : Int))] H else some ⟨.ret, [(4, .i .i64 (cmpI v u))], H⟩ := by
  have hk : k < 3 := by have := (List.getElem?_eq_some_iff.1 h1).1; omega
  have e1 : ((k : Int) < 3) := by omega
  have e2 : wrapR .i64 ((k : Int) + 1) = .i .i64 ((k : Int) + 1) := wrapR_i64 (by omega)
  have e3 : ¬ (3 : Int) ≤ (k : Int) := by omega
  have e4 : ¬ 3 ≤ k := by omega
  by_cases hc : cmpI v u = 0
  · rw [if_pos hc, l70_1, den_loop]
    simp [l70_1, b70_0, go_nil, go_last, go_past, go_pastR, go_blkN, go_blkR, go_blkE, go_skip, go_exit, go_ret, go_scope, go_seq, go_reg, go_block, go_cond, cnd_b, go_opsN, go_ops, go_opsG, grd_b, grd_u, stp_some, fin_some, up_some, cont_some, k_call, k_mv, k_pick, k_bin, k_eqB, k_eqA, k_not, k_neg, k_conv, k_alloc, k_boxA, k_boxI, k_boxB, k_boxN, k_boxBs, k_ldR, k_ldA, k_ldI, k_ldB, k_stA, k_stI, k_stB, ldC_some, stC_some, k_mkfn, k_slc, k_slcA, k_ixA, k_ixBs, k_ixSl, k_fadr, k_fld, k_ext, k_len, k_app, k_mn, k_mx, k_nilck, k_build, k_bsl1, k_bsl2, b_add, b_sub, b_mul, b_eql, b_neq, b_lss, b_leq, b_gtr, b_geq, Dn.setLast, Dn.getLast, evalO, mapO, Dn.get, putE, keepE, TV.one, TV.isAgg, Dn.part, lenK, e1, e2, e3, e4, h1, h2, hx, hy, call83 hF, hc]
  · have hc' : (cmpI v u == 0) = false := by simpa using hc
    have hc'' : (cmpI v u != 0) = true := by simp [bne, hc']
    rw [if_neg hc, l70_1, den_loop]
    simp [l70_1, b70_0, go_nil, go_last, go_past, go_pastR, go_blkN, go_blkR, go_blkE, go_skip, go_exit, go_ret, go_scope, go_seq, go_reg, go_block, go_cond, cnd_b, go_opsN, go_ops, go_opsG, grd_b, grd_u, stp_some, fin_some, up_some, cont_some, k_call, k_mv, k_pick, k_bin, k_eqB, k_eqA, k_not, k_neg, k_conv, k_alloc, k_boxA, k_boxI, k_boxB, k_boxN, k_boxBs, k_ldR, k_ldA, k_ldI, k_ldB, k_stA, k_stI, k_stB, ldC_some, stC_some, k_mkfn, k_slc, k_slcA, k_ixA, k_ixBs, k_ixSl, k_fadr, k_fld, k_ext, k_len, k_app, k_mn, k_mx, k_nilck, k_build, k_bsl1, k_bsl2, b_add, b_sub, b_mul, b_eql, b_neq, b_lss, b_leq, b_gtr, b_geq, Dn.setLast, Dn.getLast, evalO, mapO, Dn.get, putE, keepE, TV.one, TV.isAgg, Dn.part, lenK, e1, e2, e3, e4, h1, h2, hx, hy, call83 hF, hc'']

theorem l70_end {pg : Pg} {H : Heap} {xs ys : List TV} : den pg l70_1 [(0, .bs true 1 xs), (1, .bs true 1 ys), (9, .bs true 1 xs), (10, .i .i64 3), (11, .i .i64 3)] H = some ⟨.exit 0, [(0, .bs true 1 xs), (1, .bs true 1 ys), (9, .bs true 1 xs), (10, .i .i64 3), (11, .i .i64 3), (12, .b false)], H⟩ := by
  rw [l70_1, den_loop]
  simp [b70_0, go_nil, go_last, go_past, go_pastR, go_blkN, go_blkR, go_blkE, go_skip, go_exit, go_ret, go_scope, go_seq, go_reg, go_block, go_cond, cnd_b, go_opsN, go_ops, go_opsG, grd_b, grd_u, stp_some, fin_some, up_some, cont_some, k_call, k_mv, k_pick, k_bin, k_eqB, k_eqA, k_not, k_neg, k_conv, k_alloc, k_boxA, k_boxI, k_boxB, k_boxN, k_boxBs, k_ldR, k_ldA, k_ldI, k_ldB, k_stA, k_stI, k_stB, ldC_some, stC_some, k_mkfn, k_slc, k_slcA, k_ixA, k_ixBs, k_ixSl, k_fadr, k_fld, k_ext, k_len, k_app, k_mn, k_mx, k_nilck, k_build, k_bsl1, k_bsl2, b_add, b_sub, b_mul, b_eql, b_neq, b_lss, b_leq, b_gtr, b_geq, Dn.setLast, Dn.getLast, evalO, mapO, Dn.get, putE, keepE, TV.one, TV.isAgg, Dn.part]

def cmp3 (a b : Line) : Int := if cmpI a.1 b.1 ≠ 0 then cmpI a.1 b.1 else if cmpI a.2.1 b.2.1 ≠ 0 then cmpI a.2.1 b.2.1 else cmpI a.2.2 b.2.2

theorem cmp3_lt (a b : Line) : (cmp3 a b < 0) ↔ lt3 a b = true := by
  simp only [cmp3, cmpI, lt3, Bool.or_eq_true, Bool.and_eq_true, decide_eq_true_eq]
  split <;> split <;> (try split) <;> (try split) <;> omega

theorem fn70 {pg : Pg} (hF : Free pg) (a b : Line) : Fn pg 70 [.bs true 1 [.i .i64 a.1, .i .i64 a.2.1, .i .i64 a.2.2], .bs true 1 [.i .i64 b.1, .i .i64 b.2.1, .i .i64 b.2.2]] (.i .i64 (cmp3 a b)) := by
  obtain ⟨a0, a1, a2⟩ := a
  obtain ⟨b0, b1, b2⟩ := b
  have r0 := l70_round hF (H := []) (k := 0) (xs := [.i .i64 a0, .i .i64 a1, .i .i64 a2]) (ys := [.i .i64 b0, .i .i64 b1, .i .i64 b2]) rfl rfl rfl rfl
  have r1 := l70_round hF (H := []) (k := 1) (xs := [.i .i64 a0, .i .i64 a1, .i .i64 a2]) (ys := [.i .i64 b0, .i .i64 b1, .i .i64 b2]) rfl rfl rfl rfl
  have r2 := l70_round hF (H := []) (k := 2) (xs := [.i .i64 a0, .i .i64 a1, .i .i64 a2]) (ys := [.i .i64 b0, .i .i64 b1, .i .i64 b2]) rfl rfl rfl rfl
  refine .of1 (x := .ret) (e := [(4, .i .i64 (cmp3 (a0, a1, a2) (b0, b1, b2)))]) (H' := []) (hF.S _ _ (by decide)) (d := d70) (by rw [hF.F]; rfl) rfl ?_ (.inl rfl) rfl (snap_int _ _ _ _)
  by_cases h0 : cmpI a0 b0 = 0
  · by_cases h1 : cmpI a1 b1 = 0
    · by_cases h2 : cmpI a2 b2 = 0
      · have hr := (r0.trans ((if_pos h0).trans (r1.trans ((if_pos h1).trans (r2.trans ((if_pos h2).trans l70_end))))))
        simp [d70, c70, zipE, go_nil, go_last, go_past, go_pastR, go_blkN, go_blkR, go_blkE, go_skip, go_exit, go_ret, go_scope, go_seq, go_reg, go_block, go_cond, cnd_b, go_opsN, go_ops, go_opsG, grd_b, grd_u, stp_some, fin_some, up_some, cont_some, k_call, k_mv, k_pick, k_bin, k_eqB, k_eqA, k_not, k_neg, k_conv, k_alloc, k_boxA, k_boxI, k_boxB, k_boxN, k_boxBs, k_ldR, k_ldA, k_ldI, k_ldB, k_stA, k_stI, k_stB, ldC_some, stC_some, k_mkfn, k_slc, k_slcA, k_ixA, k_ixBs, k_ixSl, k_fadr, k_fld, k_ext, k_len, k_app, k_mn, k_mx, k_nilck, k_build, k_bsl1, k_bsl2, b_add, b_sub, b_mul, b_eql, b_neq, b_lss, b_leq, b_gtr, b_geq, Dn.setLast, Dn.getLast, evalO, mapO, Dn.get, putE, keepE, TV.one, TV.isAgg, Dn.part, lenK, go_den l70_1]
        simp at hr
        simp [hr, go_nil, go_last, go_past, go_pastR, go_blkN, go_blkR, go_blkE, go_skip, go_exit, go_ret, go_scope, go_seq, go_reg, go_block, go_cond, cnd_b, go_opsN, go_ops, go_opsG, grd_b, grd_u, stp_some, fin_some, up_some, cont_some, k_call, k_mv, k_pick, k_bin, k_eqB, k_eqA, k_not, k_neg, k_conv, k_alloc, k_boxA, k_boxI, k_boxB, k_boxN, k_boxBs, k_ldR, k_ldA, k_ldI, k_ldB, k_stA, k_stI, k_stB, ldC_some, stC_some, k_mkfn, k_slc, k_slcA, k_ixA, k_ixBs, k_ixSl, k_fadr, k_fld, k_ext, k_len, k_app, k_mn, k_mx, k_nilck, k_build, k_bsl1, k_bsl2, b_add, b_sub, b_mul, b_eql, b_neq, b_lss, b_leq, b_gtr, b_geq, Dn.setLast, Dn.getLast, evalO, mapO, Dn.get, putE, keepE, TV.one, TV.isAgg, Dn.part, lenK, cmp3, h0, h1, h2]
      · have hr := (r0.trans ((if_pos h0).trans (r1.trans ((if_pos h1).trans (r2.trans (if_neg h2))))))
        simp [d70, c70, zipE, go_nil, go_last, go_past, go_pastR, go_blkN, go_blkR, go_blkE, go_skip, go_exit, go_ret, go_scope, go_seq, go_reg, go_block, go_cond, cnd_b, go_opsN, go_ops, go_opsG, grd_b, grd_u, stp_some, fin_some, up_some, cont_some, k_call, k_mv, k_pick, k_bin, k_eqB, k_eqA, k_not, k_neg, k_conv, k_alloc, k_boxA, k_boxI, k_boxB, k_boxN, k_boxBs, k_ldR, k_ldA, k_ldI, k_ldB, k_stA, k_stI, k_stB, ldC_some, stC_some, k_mkfn, k_slc, k_slcA, k_ixA, k_ixBs, k_ixSl, k_fadr, k_fld, k_ext, k_len, k_app, k_mn, k_mx, k_nilck, k_build, k_bsl1, k_bsl2, b_add, b_sub, b_mul, b_eql, b_neq, b_lss, b_leq, b_gtr, b_geq, Dn.setLast, Dn.getLast, evalO, mapO, Dn.get, putE, keepE, TV.one, TV.isAgg, Dn.part, lenK, go_den l70_1]
        simp at hr
        simp [hr, go_nil, go_last, go_past, go_pastR, go_blkN, go_blkR, go_blkE, go_skip, go_exit, go_ret, go_scope, go_seq, go_reg, go_block, go_cond, cnd_b, go_opsN, go_ops, go_opsG, grd_b, grd_u, stp_some, fin_some, up_some, cont_some, k_call, k_mv, k_pick, k_bin, k_eqB, k_eqA, k_not, k_neg, k_conv, k_alloc, k_boxA, k_boxI, k_boxB, k_boxN, k_boxBs, k_ldR, k_ldA, k_ldI, k_ldB, k_stA, k_stI, k_stB, ldC_some, stC_some, k_mkfn, k_slc, k_slcA, k_ixA, k_ixBs, k_ixSl, k_fadr, k_fld, k_ext, k_len, k_app, k_mn, k_mx, k_nilck, k_build, k_bsl1, k_bsl2, b_add, b_sub, b_mul, b_eql, b_neq, b_lss, b_leq, b_gtr, b_geq, Dn.setLast, Dn.getLast, evalO, mapO, Dn.get, putE, keepE, TV.one, TV.isAgg, Dn.part, lenK, cmp3, h0, h1, h2]
    · have hr := (r0.trans ((if_pos h0).trans (r1.trans (if_neg h1))))
      simp [d70, c70, zipE, go_nil, go_last, go_past, go_pastR, go_blkN, go_blkR, go_blkE, go_skip, go_exit, go_ret, go_scope, go_seq, go_reg, go_block, go_cond, cnd_b, go_opsN, go_ops, go_opsG, grd_b, grd_u, stp_some, fin_some, up_some, cont_some, k_call, k_mv, k_pick, k_bin, k_eqB, k_eqA, k_not, k_neg, k_conv, k_alloc, k_boxA, k_boxI, k_boxB, k_boxN, k_boxBs, k_ldR, k_ldA, k_ldI, k_ldB, k_stA, k_stI, k_stB, ldC_some, stC_some, k_mkfn, k_slc, k_slcA, k_ixA, k_ixBs, k_ixSl, k_fadr, k_fld, k_ext, k_len, k_app, k_mn, k_mx, k_nilck, k_build, k_bsl1, k_bsl2, b_add, b_sub, b_mul, b_eql, b_neq, b_lss, b_leq, b_gtr, b_geq, Dn.setLast, Dn.getLast, evalO, mapO, Dn.get, putE, keepE, TV.one, TV.isAgg, Dn.part, lenK, go_den l70_1]
      simp at hr
      simp [hr, go_nil, go_last, go_past, go_pastR, go_blkN, go_blkR, go_blkE, go_skip, go_exit, go_ret, go_scope, go_seq, go_reg, go_block, go_cond, cnd_b, go_opsN, go_ops, go_opsG, grd_b, grd_u, stp_some, fin_some, up_some, cont_some, k_call, k_mv, k_pick, k_bin, k_eqB, k_eqA, k_not, k_neg, k_conv, k_alloc, k_boxA, k_boxI, k_boxB, k_boxN, k_boxBs, k_ldR, k_ldA, k_ldI, k_ldB, k_stA, k_stI, k_stB, ldC_some, stC_some, k_mkfn, k_slc, k_slcA, k_ixA, k_ixBs, k_ixSl, k_fadr, k_fld, k_ext, k_len, k_app, k_mn, k_mx, k_nilck, k_build, k_bsl1, k_bsl2, b_add, b_sub, b_mul, b_eql, b_neq, b_lss, b_leq, b_gtr, b_geq, Dn.setLast, Dn.getLast, evalO, mapO, Dn.get, putE, keepE, TV.one, TV.isAgg, Dn.part, lenK, cmp3, h0, h1]
  · have hr := (r0.trans (if_neg h0))
    simp [d70, c70, zipE, go_nil, go_last, go_past, go_pastR, go_blkN, go_blkR, go_blkE, go_skip, go_exit, go_ret, go_scope, go_seq, go_reg, go_block, go_cond, cnd_b, go_opsN, go_ops, go_opsG, grd_b, grd_u, stp_some, fin_some, up_some, cont_some, k_call, k_mv, k_pick, k_bin, k_eqB, k_eqA, k_not, k_neg, k_conv, k_alloc, k_boxA, k_boxI, k_boxB, k_boxN, k_boxBs, k_ldR, k_ldA, k_ldI, k_ldB, k_stA, k_stI, k_stB, ldC_some, stC_some, k_mkfn, k_slc, k_slcA, k_ixA, k_ixBs, k_ixSl, k_fadr, k_fld, k_ext, k_len, k_app, k_mn, k_mx, k_nilck, k_build, k_bsl1, k_bsl2, b_add, b_sub, b_mul, b_eql, b_neq, b_lss, b_leq, b_gtr, b_geq, Dn.setLast, Dn.getLast, evalO, mapO, Dn.get, putE, keepE, TV.one, TV.isAgg, Dn.part, lenK, go_den l70_1]
    simp at hr
    simp [hr, go_nil, go_last, go_past, go_pastR, go_blkN, go_blkR, go_blkE, go_skip, go_exit, go_ret, go_scope, go_seq, go_reg, go_block, go_cond, cnd_b, go_opsN, go_ops, go_opsG, grd_b, grd_u, stp_some, fin_some, up_some, cont_some, k_call, k_mv, k_pick, k_bin, k_eqB, k_eqA, k_not, k_neg, k_conv, k_alloc, k_boxA, k_boxI, k_boxB, k_boxN, k_boxBs, k_ldR, k_ldA, k_ldI, k_ldB, k_stA, k_stI, k_stB, ldC_some, stC_some, k_mkfn, k_slc, k_slcA, k_ixA, k_ixBs, k_ixSl, k_fadr, k_fld, k_ext, k_len, k_app, k_mn, k_mx, k_nilck, k_build, k_bsl1, k_bsl2, b_add, b_sub, b_mul, b_eql, b_neq, b_lss, b_leq, b_gtr, b_geq, Dn.setLast, Dn.getLast, evalO, mapO, Dn.get, putE, keepE, TV.one, TV.isAgg, Dn.part, lenK, cmp3, h0]

theorem call70 {pg : Pg} (hF : Free pg) (a b : Line) {H : Heap} {x y : TV} (hx : snap .borrow H 9 x = some (.bs true 1 [.i .i64 a.1, .i .i64 a.2.1, .i .i64 a.2.2])) (hy : snap .borrow H 9 y = some (.bs true 1 [.i .i64 b.1, .i .i64 b.2.1, .i .i64 b.2.2])) :
    callRun pg (den pg) (.pu []) [.fn 70 [] [], x, y] H = some (.i .i64 (cmp3 a b), H) :=
  (fn70 hF a b).call (args := [x, y]) (by simp [snapArgs, hx, hy])

end Go.Proofs.Try.Dn

/-
  The program's Check: its rounds.
-/

namespace Go.Proofs.Try.Dn
open Go.Dn

theorem l47_round {pg : Pg} (hF : Free pg) {H : Heap} {n : Int} {b : Bool} {l : List Line} {i : Nat} {x q : Line} {p : Option Line} (hm : l.length ≤ 40) (hi : l[i]? = some x) (hq : 0 < i → l[i - 1]? = some q) (hw : 0 < i → p = some q) (hw0 : i = 0 → p = none) :
    den pg l47_1 [(0, .i .i64 n), (1, .bs b 3 (l.map lineTV)), (16, .bs b 3 (l.map lineTV)), (17, .i .i64 (l.length : Int)), (18, .i .i64 i)] H =
      if (lineBad n x || worse p x) = true then some ⟨.ret, [(4, .i .i64 20)], H ++ [cl x]⟩ else den pg l47_1 [(0, .i .i64 n), (1, .bs b 3 (l.map lineTV)), (16, .bs b 3 (l.map lineTV)), (17, .i .i64 (l.length : Int)), (18, .i .i64 ((i + 1 : Nat) : Int))] (H ++ [cl x]) := by
  have hl := getLt hi
  have e1 : ((i : Int) < (l.length : Int)) := by omega
  have e2 : wrapR .i64 ((i : Int) + 1) = .i .i64 ((i : Int) + 1) := wrapR_i64 (by omega)
  have e3 : wrapR .i64 ((i : Int) - 1) = .i .i64 ((i : Int) - 1) := wrapR_i64 (by omega)
  have e4 : ((i : Int) - 1).toNat = i - 1 := by omega
  by_cases d0 : x.1 < 0
  · skip
    rw [if_pos (by simp [lineBad, d0]), l47_1, den_loop]
    simp [l47_1, b47_0, go_nil, go_last, go_past, go_pastR, go_blkN, go_blkR, go_blkE, go_skip, go_exit, go_ret, go_scope, go_seq, go_reg, go_block, go_cond, cnd_b, go_opsN, go_ops, go_opsG, grd_b, grd_u, stp_some, fin_some, up_some, cont_some, k_call, k_mv, k_pick, k_bin, k_eqB, k_eqA, k_not, k_neg, k_conv, k_alloc, k_boxA, k_boxI, k_boxB, k_boxN, k_boxBs, k_ldR, k_ldA, k_ldI, k_ldB, k_stA, k_stI, k_stB, ldC_some, stC_some, k_mkfn, k_slc, k_slcA, k_ixA, k_ixBs, k_ixSl, k_fadr, k_fld, k_ext, k_len, k_app, k_mn, k_mx, k_nilck, k_build, k_bsl1, k_bsl2, b_add, b_sub, b_mul, b_eql, b_neq, b_lss, b_leq, b_gtr, b_geq, Dn.setLast, Dn.getLast, evalO, mapO, Dn.get, putE, keepE, TV.one, TV.isAgg, Dn.part, lenK, e1, e2, hi, lineTV, put2, cl, d0]
  by_cases d1 : x.2.2 ≤ x.1
  · skip
    rw [if_pos (by simp [lineBad, d1]), l47_1, den_loop]
    simp [l47_1, b47_0, go_nil, go_last, go_past, go_pastR, go_blkN, go_blkR, go_blkE, go_skip, go_exit, go_ret, go_scope, go_seq, go_reg, go_block, go_cond, cnd_b, go_opsN, go_ops, go_opsG, grd_b, grd_u, stp_some, fin_some, up_some, cont_some, k_call, k_mv, k_pick, k_bin, k_eqB, k_eqA, k_not, k_neg, k_conv, k_alloc, k_boxA, k_boxI, k_boxB, k_boxN, k_boxBs, k_ldR, k_ldA, k_ldI, k_ldB, k_stA, k_stI, k_stB, ldC_some, stC_some, k_mkfn, k_slc, k_slcA, k_ixA, k_ixBs, k_ixSl, k_fadr, k_fld, k_ext, k_len, k_app, k_mn, k_mx, k_nilck, k_build, k_bsl1, k_bsl2, b_add, b_sub, b_mul, b_eql, b_neq, b_lss, b_leq, b_gtr, b_geq, Dn.setLast, Dn.getLast, evalO, mapO, Dn.get, putE, keepE, TV.one, TV.isAgg, Dn.part, lenK, e1, e2, hi, lineTV, put2, cl, d0, d1]
  by_cases d2 : n ≤ x.2.2
  · skip
    rw [if_pos (by simp [lineBad, d2]), l47_1, den_loop]
    simp [l47_1, b47_0, go_nil, go_last, go_past, go_pastR, go_blkN, go_blkR, go_blkE, go_skip, go_exit, go_ret, go_scope, go_seq, go_reg, go_block, go_cond, cnd_b, go_opsN, go_ops, go_opsG, grd_b, grd_u, stp_some, fin_some, up_some, cont_some, k_call, k_mv, k_pick, k_bin, k_eqB, k_eqA, k_not, k_neg, k_conv, k_alloc, k_boxA, k_boxI, k_boxB, k_boxN, k_boxBs, k_ldR, k_ldA, k_ldI, k_ldB, k_stA, k_stI, k_stB, ldC_some, stC_some, k_mkfn, k_slc, k_slcA, k_ixA, k_ixBs, k_ixSl, k_fadr, k_fld, k_ext, k_len, k_app, k_mn, k_mx, k_nilck, k_build, k_bsl1, k_bsl2, b_add, b_sub, b_mul, b_eql, b_neq, b_lss, b_leq, b_gtr, b_geq, Dn.setLast, Dn.getLast, evalO, mapO, Dn.get, putE, keepE, TV.one, TV.isAgg, Dn.part, lenK, e1, e2, hi, lineTV, put2, cl, d0, d1, d2]
  by_cases d3 : x.2.1 < 0
  · skip
    rw [if_pos (by simp [lineBad, d3]), l47_1, den_loop]
    simp [l47_1, b47_0, go_nil, go_last, go_past, go_pastR, go_blkN, go_blkR, go_blkE, go_skip, go_exit, go_ret, go_scope, go_seq, go_reg, go_block, go_cond, cnd_b, go_opsN, go_ops, go_opsG, grd_b, grd_u, stp_some, fin_some, up_some, cont_some, k_call, k_mv, k_pick, k_bin, k_eqB, k_eqA, k_not, k_neg, k_conv, k_alloc, k_boxA, k_boxI, k_boxB, k_boxN, k_boxBs, k_ldR, k_ldA, k_ldI, k_ldB, k_stA, k_stI, k_stB, ldC_some, stC_some, k_mkfn, k_slc, k_slcA, k_ixA, k_ixBs, k_ixSl, k_fadr, k_fld, k_ext, k_len, k_app, k_mn, k_mx, k_nilck, k_build, k_bsl1, k_bsl2, b_add, b_sub, b_mul, b_eql, b_neq, b_lss, b_leq, b_gtr, b_geq, Dn.setLast, Dn.getLast, evalO, mapO, Dn.get, putE, keepE, TV.one, TV.isAgg, Dn.part, lenK, e1, e2, hi, lineTV, put2, cl, d0, d1, d2, d3]
  by_cases d4 : n ≤ x.2.1
  · skip
    rw [if_pos (by simp [lineBad, d4]), l47_1, den_loop]
    simp [l47_1, b47_0, go_nil, go_last, go_past, go_pastR, go_blkN, go_blkR, go_blkE, go_skip, go_exit, go_ret, go_scope, go_seq, go_reg, go_block, go_cond, cnd_b, go_opsN, go_ops, go_opsG, grd_b, grd_u, stp_some, fin_some, up_some, cont_some, k_call, k_mv, k_pick, k_bin, k_eqB, k_eqA, k_not, k_neg, k_conv, k_alloc, k_boxA, k_boxI, k_boxB, k_boxN, k_boxBs, k_ldR, k_ldA, k_ldI, k_ldB, k_stA, k_stI, k_stB, ldC_some, stC_some, k_mkfn, k_slc, k_slcA, k_ixA, k_ixBs, k_ixSl, k_fadr, k_fld, k_ext, k_len, k_app, k_mn, k_mx, k_nilck, k_build, k_bsl1, k_bsl2, b_add, b_sub, b_mul, b_eql, b_neq, b_lss, b_leq, b_gtr, b_geq, Dn.setLast, Dn.getLast, evalO, mapO, Dn.get, putE, keepE, TV.one, TV.isAgg, Dn.part, lenK, e1, e2, hi, lineTV, put2, cl, d0, d1, d2, d3, d4]
  by_cases d5 : x.2.1 = x.1
  · have d5b : (x.2.1 == x.1) = true := by simp [d5]
    rw [if_pos (by simp [lineBad, d5]), l47_1, den_loop]
    simp [l47_1, b47_0, go_nil, go_last, go_past, go_pastR, go_blkN, go_blkR, go_blkE, go_skip, go_exit, go_ret, go_scope, go_seq, go_reg, go_block, go_cond, cnd_b, go_opsN, go_ops, go_opsG, grd_b, grd_u, stp_some, fin_some, up_some, cont_some, k_call, k_mv, k_pick, k_bin, k_eqB, k_eqA, k_not, k_neg, k_conv, k_alloc, k_boxA, k_boxI, k_boxB, k_boxN, k_boxBs, k_ldR, k_ldA, k_ldI, k_ldB, k_stA, k_stI, k_stB, ldC_some, stC_some, k_mkfn, k_slc, k_slcA, k_ixA, k_ixBs, k_ixSl, k_fadr, k_fld, k_ext, k_len, k_app, k_mn, k_mx, k_nilck, k_build, k_bsl1, k_bsl2, b_add, b_sub, b_mul, b_eql, b_neq, b_lss, b_leq, b_gtr, b_geq, Dn.setLast, Dn.getLast, evalO, mapO, Dn.get, putE, keepE, TV.one, TV.isAgg, Dn.part, lenK, e1, e2, hi, lineTV, put2, cl, d0, d1, d2, d3, d4, d5b]
  by_cases d6 : x.2.1 = x.2.2
  · have d6b : (x.2.1 == x.2.2) = true := by simp [d6]
    rw [if_pos (by simp [lineBad, d6]), l47_1, den_loop]
    simp [l47_1, b47_0, go_nil, go_last, go_past, go_pastR, go_blkN, go_blkR, go_blkE, go_skip, go_exit, go_ret, go_scope, go_seq, go_reg, go_block, go_cond, cnd_b, go_opsN, go_ops, go_opsG, grd_b, grd_u, stp_some, fin_some, up_some, cont_some, k_call, k_mv, k_pick, k_bin, k_eqB, k_eqA, k_not, k_neg, k_conv, k_alloc, k_boxA, k_boxI, k_boxB, k_boxN, k_boxBs, k_ldR, k_ldA, k_ldI, k_ldB, k_stA, k_stI, k_stB, ldC_some, stC_some, k_mkfn, k_slc, k_slcA, k_ixA, k_ixBs, k_ixSl, k_fadr, k_fld, k_ext, k_len, k_app, k_mn, k_mx, k_nilck, k_build, k_bsl1, k_bsl2, b_add, b_sub, b_mul, b_eql, b_neq, b_lss, b_leq, b_gtr, b_geq, Dn.setLast, Dn.getLast, evalO, mapO, Dn.get, putE, keepE, TV.one, TV.isAgg, Dn.part, lenK, e1, e2, hi, lineTV, put2, cl, d0, d1, d2, d3, d4, d5, d6b]
  by_cases hp : 0 < i
  · have c4' : (0 : Int) < i := by omega
    have c4'' : (0 : Int) ≤ (i : Int) - 1 := by omega
    have c4a : (1 : Int) ≤ (i : Int) := by omega
    have hc := cmp3_lt q x
    have h70 := call70 (pg := pg) hF q x (H := H ++ [cl x]) (x := .bs b 1 [.i .i64 q.1, .i .i64 q.2.1, .i .i64 q.2.2]) (y := .sl H.length 0 1 false 3 (some 3)) (by simp [snap, SM.flag, mapO]) (by simp [snap, SM.flag, mapO, cl, elems])
    simp only [cl] at h70
    by_cases c5 : lt3 q x = true
    · have c6 : ¬ 0 ≤ cmp3 q x := by have := hc.2 c5; omega
      rw [if_neg (by simp [lineBad, d0, d1, d2, d3, d4, d5, d6, hw hp, worse, c5]), l47_1, den_loop]
      simp [l47_1, b47_0, go_nil, go_last, go_past, go_pastR, go_blkN, go_blkR, go_blkE, go_skip, go_exit, go_ret, go_scope, go_seq, go_reg, go_block, go_cond, cnd_b, go_opsN, go_ops, go_opsG, grd_b, grd_u, stp_some, fin_some, up_some, cont_some, k_call, k_mv, k_pick, k_bin, k_eqB, k_eqA, k_not, k_neg, k_conv, k_alloc, k_boxA, k_boxI, k_boxB, k_boxN, k_boxBs, k_ldR, k_ldA, k_ldI, k_ldB, k_stA, k_stI, k_stB, ldC_some, stC_some, k_mkfn, k_slc, k_slcA, k_ixA, k_ixBs, k_ixSl, k_fadr, k_fld, k_ext, k_len, k_app, k_mn, k_mx, k_nilck, k_build, k_bsl1, k_bsl2, b_add, b_sub, b_mul, b_eql, b_neq, b_lss, b_leq, b_gtr, b_geq, Dn.setLast, Dn.getLast, evalO, mapO, Dn.get, putE, keepE, TV.one, TV.isAgg, Dn.part, lenK, e1, e2, hi, lineTV, put2, cl, d0, d1, d2, d3, d4, d5, d6, hp, c4', c4'', c4a, e3, e4, hq hp, c6, slcARun, bounds3, h70]
    · have c6 : 0 ≤ cmp3 q x := by have := mt hc.1 c5; omega
      rw [if_pos (by simp [hw hp, worse, c5]), l47_1, den_loop]
      simp [l47_1, b47_0, go_nil, go_last, go_past, go_pastR, go_blkN, go_blkR, go_blkE, go_skip, go_exit, go_ret, go_scope, go_seq, go_reg, go_block, go_cond, cnd_b, go_opsN, go_ops, go_opsG, grd_b, grd_u, stp_some, fin_some, up_some, cont_some, k_call, k_mv, k_pick, k_bin, k_eqB, k_eqA, k_not, k_neg, k_conv, k_alloc, k_boxA, k_boxI, k_boxB, k_boxN, k_boxBs, k_ldR, k_ldA, k_ldI, k_ldB, k_stA, k_stI, k_stB, ldC_some, stC_some, k_mkfn, k_slc, k_slcA, k_ixA, k_ixBs, k_ixSl, k_fadr, k_fld, k_ext, k_len, k_app, k_mn, k_mx, k_nilck, k_build, k_bsl1, k_bsl2, b_add, b_sub, b_mul, b_eql, b_neq, b_lss, b_leq, b_gtr, b_geq, Dn.setLast, Dn.getLast, evalO, mapO, Dn.get, putE, keepE, TV.one, TV.isAgg, Dn.part, lenK, e1, e2, hi, lineTV, put2, cl, d0, d1, d2, d3, d4, d5, d6, hp, c4', c4'', c4a, e3, e4, hq hp, c6, slcARun, bounds3, h70]
  · have c4' : ¬ (0 : Int) < i := by omega
    rw [if_neg (by simp [lineBad, d0, d1, d2, d3, d4, d5, d6, hw0 (by omega), worse]), l47_1, den_loop]
    simp [l47_1, b47_0, go_nil, go_last, go_past, go_pastR, go_blkN, go_blkR, go_blkE, go_skip, go_exit, go_ret, go_scope, go_seq, go_reg, go_block, go_cond, cnd_b, go_opsN, go_ops, go_opsG, grd_b, grd_u, stp_some, fin_some, up_some, cont_some, k_call, k_mv, k_pick, k_bin, k_eqB, k_eqA, k_not, k_neg, k_conv, k_alloc, k_boxA, k_boxI, k_boxB, k_boxN, k_boxBs, k_ldR, k_ldA, k_ldI, k_ldB, k_stA, k_stI, k_stB, ldC_some, stC_some, k_mkfn, k_slc, k_slcA, k_ixA, k_ixBs, k_ixSl, k_fadr, k_fld, k_ext, k_len, k_app, k_mn, k_mx, k_nilck, k_build, k_bsl1, k_bsl2, b_add, b_sub, b_mul, b_eql, b_neq, b_lss, b_leq, b_gtr, b_geq, Dn.setLast, Dn.getLast, evalO, mapO, Dn.get, putE, keepE, TV.one, TV.isAgg, Dn.part, lenK, e1, e2, hi, lineTV, put2, cl, d0, d1, d2, d3, d4, d5, d6, hp, c4']


end Go.Proofs.Try.Dn

/-
  The program's Check answers as 'chk' says.
-/

namespace Go.Proofs.Try.Dn
open Go.Dn

theorem l47_stop {pg : Pg} {H : Heap} {n : Int} {t u : TV} {m i : Int} (hi : ¬ i < m) :
    den pg l47_1 [(0, .i .i64 n), (1, t), (16, u), (17, .i .i64 m), (18, .i .i64 i)] H = some ⟨.exit 0, [(0, .i .i64 n), (1, t), (16, u), (17, .i .i64 m), (18, .i .i64 i), (19, .b false)], H⟩ := by
  rw [l47_1, den_loop]
  simp [b47_0, go_nil, go_last, go_past, go_pastR, go_blkN, go_blkR, go_blkE, go_skip, go_exit, go_ret, go_scope, go_seq, go_reg, go_block, go_cond, cnd_b, go_opsN, go_ops, go_opsG, grd_b, grd_u, stp_some, fin_some, up_some, cont_some, k_call, k_mv, k_pick, k_bin, k_eqB, k_eqA, k_not, k_neg, k_conv, k_alloc, k_boxA, k_boxI, k_boxB, k_boxN, k_boxBs, k_ldR, k_ldA, k_ldI, k_ldB, k_stA, k_stI, k_stB, ldC_some, stC_some, k_mkfn, k_slc, k_slcA, k_ixA, k_ixBs, k_ixSl, k_fadr, k_fld, k_ext, k_len, k_app, k_mn, k_mx, k_nilck, k_build, k_bsl1, k_bsl2, b_add, b_sub, b_mul, b_eql, b_neq, b_lss, b_leq, b_gtr, b_geq, Dn.setLast, Dn.getLast, evalO, mapO, Dn.get, putE, keepE, TV.one, TV.isAgg, Dn.part, hi]

theorem l47_all {pg : Pg} (hF : Free pg) {n : Int} {b : Bool} {l : List Line} (hm : l.length ≤ 40) : ∀ (k i : Nat) (H : Heap), i + k = l.length →
    ∃ x e H', den pg l47_1 [(0, .i .i64 n), (1, LT b l), (16, LT b l), (17, .i .i64 (l.length : Int)), (18, .i .i64 i)] H = some ⟨x, e, H'⟩ ∧ (x = .exit 0 ∧ chkFrom n (prev l i) (l.drop i) = 0 ∨ x = .ret ∧ e = [(4, .i .i64 20)] ∧ chkFrom n (prev l i) (l.drop i) = 20)
  | 0, i, H, h => by
    refine ⟨_, _, _, l47_stop (by omega), .inl ⟨rfl, ?_⟩⟩
    rw [List.drop_eq_nil_of_le (by omega)]
    unfold chkFrom; rfl
  | k + 1, i, H, h => by
    have hi : i < l.length := by omega
    have hx : l[i]? = some l[i] := List.getElem?_eq_getElem hi
    have hd : l.drop i = l[i] :: l.drop (i + 1) := List.drop_eq_getElem_cons hi
    obtain ⟨q, hq, hw, hw0⟩ : ∃ q, (0 < i → l[i - 1]? = some q) ∧ (0 < i → prev l i = some q) ∧ (i = 0 → prev l i = none) := by
      cases i with
      | zero => exact ⟨(0, 0, 0), fun h => by omega, fun h => by omega, fun _ => rfl⟩
      | succ i =>
        have : l[i]? = some l[i] := List.getElem?_eq_getElem (by omega)
        exact ⟨l[i], fun _ => this, fun _ => this, fun h => by omega⟩
    have hstep := l47_round hF (H := H) (n := n) (b := b) hm hx hq hw hw0
    rw [← LT_ne (LT_getne hx)] at hstep
    rw [hd, chkFrom_cons]
    by_cases ho : (lineBad n l[i] || worse (prev l i) l[i]) = true
    · rw [if_pos ho] at hstep
      exact ⟨_, _, _, hstep, .inr ⟨rfl, rfl, if_pos ho⟩⟩
    · rw [if_neg ho] at hstep
      obtain ⟨x, e, H', h1, h2⟩ := l47_all hF hm k (i + 1) (H ++ [cl l[i]]) (by omega)
      refine ⟨x, e, H', hstep.trans h1, ?_⟩
      rw [if_neg ho]
      have : prev l (i + 1) = some l[i] := hx
      rw [this] at h2
      exact h2

theorem fn47 {pg : Pg} (hF : Free pg) (n : Int) (b : Bool) (l : List Line) : Fn pg 47 [.i .i64 n, LT b l] (.i .i64 (chk n l)) := by
  have hd : pg.F 47 = some d47 := by rw [hF.F]; rfl
  have hS := hF.S 47 [.i .i64 n, LT b l] (by decide)
  by_cases h1 : n < 1
  · refine .of_go hS hd rfl (x := .ret) (e := [(4, .i .i64 1)]) (H' := []) ?_ (.inl rfl) rfl (by simp [snap, chk, h1, tupR])
    simp [d47, c47, zipE, go_nil, go_last, go_past, go_pastR, go_blkN, go_blkR, go_blkE, go_skip, go_exit, go_ret, go_scope, go_seq, go_reg, go_block, go_cond, cnd_b, go_opsN, go_ops, go_opsG, grd_b, grd_u, stp_some, fin_some, up_some, cont_some, k_call, k_mv, k_pick, k_bin, k_eqB, k_eqA, k_not, k_neg, k_conv, k_alloc, k_boxA, k_boxI, k_boxB, k_boxN, k_boxBs, k_ldR, k_ldA, k_ldI, k_ldB, k_stA, k_stI, k_stB, ldC_some, stC_some, k_mkfn, k_slc, k_slcA, k_ixA, k_ixBs, k_ixSl, k_fadr, k_fld, k_ext, k_len, k_app, k_mn, k_mx, k_nilck, k_build, k_bsl1, k_bsl2, b_add, b_sub, b_mul, b_eql, b_neq, b_lss, b_leq, b_gtr, b_geq, Dn.setLast, Dn.getLast, evalO, mapO, Dn.get, putE, keepE, TV.one, TV.isAgg, Dn.part, h1]
  by_cases h2 : 16 < n
  · refine .of_go hS hd rfl (x := .ret) (e := [(4, .i .i64 1)]) (H' := []) ?_ (.inl rfl) rfl (by simp [snap, chk, h2, tupR])
    simp [d47, c47, zipE, go_nil, go_last, go_past, go_pastR, go_blkN, go_blkR, go_blkE, go_skip, go_exit, go_ret, go_scope, go_seq, go_reg, go_block, go_cond, cnd_b, go_opsN, go_ops, go_opsG, grd_b, grd_u, stp_some, fin_some, up_some, cont_some, k_call, k_mv, k_pick, k_bin, k_eqB, k_eqA, k_not, k_neg, k_conv, k_alloc, k_boxA, k_boxI, k_boxB, k_boxN, k_boxBs, k_ldR, k_ldA, k_ldI, k_ldB, k_stA, k_stI, k_stB, ldC_some, stC_some, k_mkfn, k_slc, k_slcA, k_ixA, k_ixBs, k_ixSl, k_fadr, k_fld, k_ext, k_len, k_app, k_mn, k_mx, k_nilck, k_build, k_bsl1, k_bsl2, b_add, b_sub, b_mul, b_eql, b_neq, b_lss, b_leq, b_gtr, b_geq, Dn.setLast, Dn.getLast, evalO, mapO, Dn.get, putE, keepE, TV.one, TV.isAgg, Dn.part, h1, h2]
  by_cases h3 : 40 < l.length
  · have h3' : (40 : Int) < l.length := by omega
    refine .of_go hS hd rfl (x := .ret) (e := [(4, .i .i64 2)]) (H' := []) ?_ (.inl rfl) rfl (by simp [snap, chk, h1, h2, h3, tupR])
    simp [d47, c47, zipE, go_nil, go_last, go_past, go_pastR, go_blkN, go_blkR, go_blkE, go_skip, go_exit, go_ret, go_scope, go_seq, go_reg, go_block, go_cond, cnd_b, go_opsN, go_ops, go_opsG, grd_b, grd_u, stp_some, fin_some, up_some, cont_some, k_call, k_mv, k_pick, k_bin, k_eqB, k_eqA, k_not, k_neg, k_conv, k_alloc, k_boxA, k_boxI, k_boxB, k_boxN, k_boxBs, k_ldR, k_ldA, k_ldI, k_ldB, k_stA, k_stI, k_stB, ldC_some, stC_some, k_mkfn, k_slc, k_slcA, k_ixA, k_ixBs, k_ixSl, k_fadr, k_fld, k_ext, k_len, k_app, k_mn, k_mx, k_nilck, k_build, k_bsl1, k_bsl2, b_add, b_sub, b_mul, b_eql, b_neq, b_lss, b_leq, b_gtr, b_geq, Dn.setLast, Dn.getLast, evalO, mapO, Dn.get, putE, keepE, TV.one, TV.isAgg, Dn.part, h1, h2, LT_len, h3, h3']
  · have h3' : ¬ (40 : Int) < l.length := by omega
    obtain ⟨x, e, H', h4, h5⟩ := l47_all hF (n := n) (b := b) (l := l) (by omega) l.length 0 [] (by omega)
    simp only [List.drop_zero, prev] at h5
    rcases h5 with ⟨rfl, h5⟩ | ⟨rfl, rfl, h5⟩
    · refine .of_go hS hd rfl (x := .ret) (e := [(4, .i .i64 0)]) (H' := H') ?_ (.inl rfl) rfl (by simp [snap, chk, h1, h2, h3, h5, tupR])
      simp [d47, c47, zipE, go_nil, go_last, go_past, go_pastR, go_blkN, go_blkR, go_blkE, go_skip, go_exit, go_ret, go_scope, go_seq, go_reg, go_block, go_cond, cnd_b, go_opsN, go_ops, go_opsG, grd_b, grd_u, stp_some, fin_some, up_some, cont_some, k_call, k_mv, k_pick, k_bin, k_eqB, k_eqA, k_not, k_neg, k_conv, k_alloc, k_boxA, k_boxI, k_boxB, k_boxN, k_boxBs, k_ldR, k_ldA, k_ldI, k_ldB, k_stA, k_stI, k_stB, ldC_some, stC_some, k_mkfn, k_slc, k_slcA, k_ixA, k_ixBs, k_ixSl, k_fadr, k_fld, k_ext, k_len, k_app, k_mn, k_mx, k_nilck, k_build, k_bsl1, k_bsl2, b_add, b_sub, b_mul, b_eql, b_neq, b_lss, b_leq, b_gtr, b_geq, Dn.setLast, Dn.getLast, evalO, mapO, Dn.get, putE, keepE, TV.one, TV.isAgg, Dn.part, h1, h2, LT_len, h3, h3', go_den l47_1]
      simp at h4
      simp [h4, go_nil, go_last, go_past, go_pastR, go_blkN, go_blkR, go_blkE, go_skip, go_exit, go_ret, go_scope, go_seq, go_reg, go_block, go_cond, cnd_b, go_opsN, go_ops, go_opsG, grd_b, grd_u, stp_some, fin_some, up_some, cont_some, k_call, k_mv, k_pick, k_bin, k_eqB, k_eqA, k_not, k_neg, k_conv, k_alloc, k_boxA, k_boxI, k_boxB, k_boxN, k_boxBs, k_ldR, k_ldA, k_ldI, k_ldB, k_stA, k_stI, k_stB, ldC_some, stC_some, k_mkfn, k_slc, k_slcA, k_ixA, k_ixBs, k_ixSl, k_fadr, k_fld, k_ext, k_len, k_app, k_mn, k_mx, k_nilck, k_build, k_bsl1, k_bsl2, b_add, b_sub, b_mul, b_eql, b_neq, b_lss, b_leq, b_gtr, b_geq, Dn.setLast, Dn.getLast, evalO, mapO, Dn.get, putE, keepE, TV.one, TV.isAgg, Dn.part]
    · refine .of_go hS hd rfl (x := .ret) (e := [(4, .i .i64 20)]) (H' := H') ?_ (.inl rfl) rfl (by simp [snap, chk, h1, h2, h3, h5, tupR])
      simp [d47, c47, zipE, go_nil, go_last, go_past, go_pastR, go_blkN, go_blkR, go_blkE, go_skip, go_exit, go_ret, go_scope, go_seq, go_reg, go_block, go_cond, cnd_b, go_opsN, go_ops, go_opsG, grd_b, grd_u, stp_some, fin_some, up_some, cont_some, k_call, k_mv, k_pick, k_bin, k_eqB, k_eqA, k_not, k_neg, k_conv, k_alloc, k_boxA, k_boxI, k_boxB, k_boxN, k_boxBs, k_ldR, k_ldA, k_ldI, k_ldB, k_stA, k_stI, k_stB, ldC_some, stC_some, k_mkfn, k_slc, k_slcA, k_ixA, k_ixBs, k_ixSl, k_fadr, k_fld, k_ext, k_len, k_app, k_mn, k_mx, k_nilck, k_build, k_bsl1, k_bsl2, b_add, b_sub, b_mul, b_eql, b_neq, b_lss, b_leq, b_gtr, b_geq, Dn.setLast, Dn.getLast, evalO, mapO, Dn.get, putE, keepE, TV.one, TV.isAgg, Dn.part, h1, h2, LT_len, h3, h3', go_den l47_1]
      simp at h4
      simp [h4, go_nil, go_last, go_past, go_pastR, go_blkN, go_blkR, go_blkE, go_skip, go_exit, go_ret, go_scope, go_seq, go_reg, go_block, go_cond, cnd_b, go_opsN, go_ops, go_opsG, grd_b, grd_u, stp_some, fin_some, up_some, cont_some, k_call, k_mv, k_pick, k_bin, k_eqB, k_eqA, k_not, k_neg, k_conv, k_alloc, k_boxA, k_boxI, k_boxB, k_boxN, k_boxBs, k_ldR, k_ldA, k_ldI, k_ldB, k_stA, k_stI, k_stB, ldC_some, stC_some, k_mkfn, k_slc, k_slcA, k_ixA, k_ixBs, k_ixSl, k_fadr, k_fld, k_ext, k_len, k_app, k_mn, k_mx, k_nilck, k_build, k_bsl1, k_bsl2, b_add, b_sub, b_mul, b_eql, b_neq, b_lss, b_leq, b_gtr, b_geq, Dn.setLast, Dn.getLast, evalO, mapO, Dn.get, putE, keepE, TV.one, TV.isAgg, Dn.part]

end Go.Proofs.Try.Dn

/-
  Where the board or a position is wrong, each function returns what 'open' says.
-/

namespace Go.Proofs.Try.Dn
open Go.Dn

theorem Fn.of2 {pg : Pg} {f : Nat} {xs : List TV} {d : DFun} {x : Ex} {e : Env} {H' : Heap} {vs : List TV} (hS : pg.S f xs = none) (hd : pg.F f = some d) (hl : xs.length = d.np)
    (ho : go pg (den pg) [.c d.body] .normal (zipE xs 0) [] = some ⟨x, e, H'⟩) (hx : x = .ret ∨ x = .normal) (hv : mapO (resRun e H') d.res = some vs) (h2 : 2 ≤ vs.length) (hs : mapO (snap .fin H' 8) vs = some vs) : Fn pg f xs (.tup vs) := by
  refine .of_go hS hd hl ho hx hv ?_
  match vs, h2 with
  | a :: b :: r, _ => simp only [tupR, sn_tup, hs, Option.map_some]

theorem LT_call (b : Bool) (l : List Line) (H : Heap) : snap .borrow H 9 (LT b l) = some (LT true l) := snap_LT b H l

/-- 'open' says e of these positions -/
def Opn (pg : Pg) (n : Int) (l : List Line) (ps : List TV) (e : Int) : Prop := Fn pg 48 [.i .i64 n, LT true l, .bs true 1 ps] (.i .i64 e)
def Opn0 (pg : Pg) (n : Int) (l : List Line) (e : Int) : Prop := Fn pg 48 [.i .i64 n, LT true l, .nilsl] (.i .i64 e)

theorem Opn.call1 {pg : Pg} {n : Int} {l : List Line} {p e : Int} (h : Opn pg n l [.i .i64 p] e) (id : Nat) (H : Heap) (hi : H[id]? = some (.cells [.i .i64 p] false)) :
    callRun pg (den pg) (.pu []) [.fn 48 [] [], .i .i64 n, LT true l, .sl id 0 1 false 1 (some 1)] H = some (.i .i64 e, H) :=
  Fn.call h (args := [.i .i64 n, LT true l, .sl id 0 1 false 1 (some 1)]) (by simp [snapArgs, sn_i, sn_b, sn_nil, sn8_i, sn8_b, sn8_nil, sn7_i, sn7_b, sn_sl, sn8_sl, slB_some, sn_tup, sn_agg, sn8_agg, mapO, elems, LT_call, hi])

theorem Opn.call2 {pg : Pg} {n : Int} {l : List Line} {p q e : Int} (h : Opn pg n l [.i .i64 p, .i .i64 q] e) (id : Nat) (H : Heap) (hi : H[id]? = some (.cells [.i .i64 p, .i .i64 q] false)) :
    callRun pg (den pg) (.pu []) [.fn 48 [] [], .i .i64 n, LT true l, .sl id 0 1 false 2 (some 2)] H = some (.i .i64 e, H) :=
  Fn.call h (args := [.i .i64 n, LT true l, .sl id 0 1 false 2 (some 2)]) (by simp [snapArgs, sn_i, sn_b, sn_nil, sn8_i, sn8_b, sn8_nil, sn7_i, sn7_b, sn_sl, sn8_sl, slB_some, sn_tup, sn_agg, sn8_agg, mapO, elems, LT_call, hi])

theorem Opn0.call {pg : Pg} {n : Int} {l : List Line} {e : Int} (h : Opn0 pg n l e) (H : Heap) :
    callRun pg (den pg) (.pu []) [.fn 48 [] [], .i .i64 n, LT true l, .nilsl] H = some (.i .i64 e, H) :=
  Fn.call h (args := [.i .i64 n, LT true l, .nilsl]) (by simp [snapArgs, sn_i, sn_b, sn_nil, sn8_i, sn8_b, sn8_nil, sn7_i, sn7_b, sn_sl, sn8_sl, slB_some, sn_tup, sn_agg, sn8_agg, mapO, elems, LT_call])

section
variable {pg : Pg} (hF : Free pg) {n : Int} {l : List Line} {p q e : Int} (he : (e != 0) = true)

theorem call47 {pg : Pg} (hF : Free pg) (n : Int) (b : Bool) (l : List Line) (H : Heap) : callRun pg (den pg) (.pu []) [.fn 47 [] [], .i .i64 n, LT b l] H = some (.i .i64 (chk n l), H) :=
  Fn.call (fn47 hF n true l) (args := [.i .i64 n, LT b l]) (by simp [snapArgs, sn_i, sn_b, sn_nil, sn8_i, sn8_b, sn8_nil, sn7_i, sn7_b, sn_sl, sn8_sl, slB_some, sn_tup, sn_agg, sn8_agg, mapO, elems, LT_call])

include hF
/-- a wrong board -/
theorem opn_bad (hc : chk n l ≠ 0) (ps : TV) : Fn pg 48 [.i .i64 n, LT true l, ps] (.i .i64 (chk n l)) := by
  have hc' : (chk n l != 0) = true := by simpa using hc
  refine .of1 (x := .ret) (e := [(6, .i .i64 (chk n l))]) (H' := [.cells [.i .i64 n] false]) (hF.S _ _ (by decide)) (d := d48) (by rw [hF.F]; rfl) rfl ?_ (.inl rfl) rfl (by simp [sn_i, sn_b, sn_nil, sn8_i, sn8_b, sn8_nil, sn7_i, sn7_b, sn_sl, sn8_sl, slB_some, sn_tup, sn_agg, sn8_agg, mapO, elems])
  simp [d48, c48, zipE, go_nil, go_last, go_past, go_pastR, go_blkN, go_blkR, go_blkE, go_skip, go_exit, go_ret, go_scope, go_seq, go_reg, go_block, go_cond, cnd_b, go_opsN, go_ops, go_opsG, grd_b, grd_u, stp_some, fin_some, up_some, cont_some, k_call, k_mv, k_pick, k_bin, k_eqB, k_eqA, k_not, k_neg, k_conv, k_alloc, k_boxA, k_boxI, k_boxB, k_boxN, k_boxBs, k_ldR, k_ldA, k_ldI, k_ldB, k_stA, k_stI, k_stB, ldC_some, stC_some, k_mkfn, k_slc, k_slcA, k_ixA, k_ixBs, k_ixSl, k_fadr, k_fld, k_ext, k_len, k_app, k_mn, k_mx, k_nilck, k_build, k_bsl1, k_bsl2, b_add, b_sub, b_mul, b_eql, b_neq, b_lss, b_leq, b_gtr, b_geq, Dn.setLast, Dn.getLast, evalO, mapO, Dn.get, putE, keepE, TV.one, TV.isAgg, Dn.part, call47 hF, hc']

include he

theorem e43 (h : Opn pg n l [.i .i64 p] e) : Fn pg 43 [.i .i64 n, LT true l, .i .i64 p] (.tup [.nilsl, .i .i64 e]) := by
  refine .of2 (x := .ret) (e := [(6, .nilsl), (7, .i .i64 e)]) (H' := [.cells [.i .i64 p] false, .cells [.i .i64 p] false]) (hF.S _ _ (by decide)) (d := d43) (by rw [hF.F]; rfl) rfl ?_ (.inl rfl) rfl (by simp) (by simp [sn_i, sn_b, sn_nil, sn8_i, sn8_b, sn8_nil, sn7_i, sn7_b, sn_sl, sn8_sl, slB_some, sn_tup, sn_agg, sn8_agg, mapO, elems])
  simp [d43, c43, zipE, go_nil, go_last, go_past, go_pastR, go_blkN, go_blkR, go_blkE, go_skip, go_exit, go_ret, go_scope, go_seq, go_reg, go_block, go_cond, cnd_b, go_opsN, go_ops, go_opsG, grd_b, grd_u, stp_some, fin_some, up_some, cont_some, k_call, k_mv, k_pick, k_bin, k_eqB, k_eqA, k_not, k_neg, k_conv, k_alloc, k_boxA, k_boxI, k_boxB, k_boxN, k_boxBs, k_ldR, k_ldA, k_ldI, k_ldB, k_stA, k_stI, k_stB, ldC_some, stC_some, k_mkfn, k_slc, k_slcA, k_ixA, k_ixBs, k_ixSl, k_fadr, k_fld, k_ext, k_len, k_app, k_mn, k_mx, k_nilck, k_build, k_bsl1, k_bsl2, b_add, b_sub, b_mul, b_eql, b_neq, b_lss, b_leq, b_gtr, b_geq, Dn.setLast, Dn.getLast, evalO, mapO, Dn.get, putE, keepE, TV.one, TV.isAgg, Dn.part, h.call1, he]

theorem e40 (g : TV) (h : Opn pg n l [.i .i64 p] e) : Fn pg 40 [.i .i64 n, LT true l, .i .i64 p, g] (.tup [.i .i64 0, .i .i64 e]) := by
  refine .of2 (x := .ret) (e := [(8, .i .i64 0), (9, .i .i64 e)]) (H' := [.cells [.i .i64 p] false]) (hF.S _ _ (by decide)) (d := d40) (by rw [hF.F]; rfl) rfl ?_ (.inl rfl) rfl (by simp) (by simp [sn_i, sn_b, sn_nil, sn8_i, sn8_b, sn8_nil, sn7_i, sn7_b, sn_sl, sn8_sl, slB_some, sn_tup, sn_agg, sn8_agg, mapO, elems])
  simp [d40, c40, zipE, go_nil, go_last, go_past, go_pastR, go_blkN, go_blkR, go_blkE, go_skip, go_exit, go_ret, go_scope, go_seq, go_reg, go_block, go_cond, cnd_b, go_opsN, go_ops, go_opsG, grd_b, grd_u, stp_some, fin_some, up_some, cont_some, k_call, k_mv, k_pick, k_bin, k_eqB, k_eqA, k_not, k_neg, k_conv, k_alloc, k_boxA, k_boxI, k_boxB, k_boxN, k_boxBs, k_ldR, k_ldA, k_ldI, k_ldB, k_stA, k_stI, k_stB, ldC_some, stC_some, k_mkfn, k_slc, k_slcA, k_ixA, k_ixBs, k_ixSl, k_fadr, k_fld, k_ext, k_len, k_app, k_mn, k_mx, k_nilck, k_build, k_bsl1, k_bsl2, b_add, b_sub, b_mul, b_eql, b_neq, b_lss, b_leq, b_gtr, b_geq, Dn.setLast, Dn.getLast, evalO, mapO, Dn.get, putE, keepE, TV.one, TV.isAgg, Dn.part, h.call1, he]

theorem e20 (h : Opn pg n l [.i .i64 p, .i .i64 q] e) : Fn pg 20 [.i .i64 n, LT true l, .i .i64 p, .i .i64 q] (.tup [.nilsl, .b false, .i .i64 e]) := by
  refine .of2 (x := .ret) (e := [(8, .nilsl), (9, .b false), (10, .i .i64 e)]) (H' := [.cells [.i .i64 p, .i .i64 q] false]) (hF.S _ _ (by decide)) (d := d20) (by rw [hF.F]; rfl) rfl ?_ (.inl rfl) rfl (by simp) (by simp [sn_i, sn_b, sn_nil, sn8_i, sn8_b, sn8_nil, sn7_i, sn7_b, sn_sl, sn8_sl, slB_some, sn_tup, sn_agg, sn8_agg, mapO, elems])
  simp [d20, c20, zipE, go_nil, go_last, go_past, go_pastR, go_blkN, go_blkR, go_blkE, go_skip, go_exit, go_ret, go_scope, go_seq, go_reg, go_block, go_cond, cnd_b, go_opsN, go_ops, go_opsG, grd_b, grd_u, stp_some, fin_some, up_some, cont_some, k_call, k_mv, k_pick, k_bin, k_eqB, k_eqA, k_not, k_neg, k_conv, k_alloc, k_boxA, k_boxI, k_boxB, k_boxN, k_boxBs, k_ldR, k_ldA, k_ldI, k_ldB, k_stA, k_stI, k_stB, ldC_some, stC_some, k_mkfn, k_slc, k_slcA, k_ixA, k_ixBs, k_ixSl, k_fadr, k_fld, k_ext, k_len, k_app, k_mn, k_mx, k_nilck, k_build, k_bsl1, k_bsl2, b_add, b_sub, b_mul, b_eql, b_neq, b_lss, b_leq, b_gtr, b_geq, Dn.setLast, Dn.getLast, evalO, mapO, Dn.get, putE, keepE, TV.one, TV.isAgg, Dn.part, h.call2, he]

theorem e24 (h : Opn pg n l [.i .i64 p] e) : Fn pg 24 [.i .i64 n, LT true l, .i .i64 p] (.tup [.nilsl, .i .i64 e]) := by
  refine .of2 (x := .ret) (e := [(6, .nilsl), (7, .i .i64 e)]) (H' := [.cells [.i .i64 p] false]) (hF.S _ _ (by decide)) (d := d24) (by rw [hF.F]; rfl) rfl ?_ (.inl rfl) rfl (by simp) (by simp [sn_i, sn_b, sn_nil, sn8_i, sn8_b, sn8_nil, sn7_i, sn7_b, sn_sl, sn8_sl, slB_some, sn_tup, sn_agg, sn8_agg, mapO, elems])
  simp [d24, c24, zipE, go_nil, go_last, go_past, go_pastR, go_blkN, go_blkR, go_blkE, go_skip, go_exit, go_ret, go_scope, go_seq, go_reg, go_block, go_cond, cnd_b, go_opsN, go_ops, go_opsG, grd_b, grd_u, stp_some, fin_some, up_some, cont_some, k_call, k_mv, k_pick, k_bin, k_eqB, k_eqA, k_not, k_neg, k_conv, k_alloc, k_boxA, k_boxI, k_boxB, k_boxN, k_boxBs, k_ldR, k_ldA, k_ldI, k_ldB, k_stA, k_stI, k_stB, ldC_some, stC_some, k_mkfn, k_slc, k_slcA, k_ixA, k_ixBs, k_ixSl, k_fadr, k_fld, k_ext, k_len, k_app, k_mn, k_mx, k_nilck, k_build, k_bsl1, k_bsl2, b_add, b_sub, b_mul, b_eql, b_neq, b_lss, b_leq, b_gtr, b_geq, Dn.setLast, Dn.getLast, evalO, mapO, Dn.get, putE, keepE, TV.one, TV.isAgg, Dn.part, h.call1, he]

theorem ecall24 (h : Opn pg n l [.i .i64 p] e) (H : Heap) : callRun pg (den pg) (.pu []) [.fn 24 [] [], .i .i64 n, LT true l, .i .i64 p] H = some (.tup [.nilsl, .i .i64 e], H) :=
  Fn.call (e24 hF he h) (args := [.i .i64 n, LT true l, .i .i64 p]) (by simp [snapArgs, sn_i, sn_b, sn_nil, sn8_i, sn8_b, sn8_nil, sn7_i, sn7_b, sn_sl, sn8_sl, slB_some, sn_tup, sn_agg, sn8_agg, mapO, elems, LT_call])

theorem e25 (h : Opn pg n l [.i .i64 p] e) : Fn pg 25 [.i .i64 n, LT true l, .i .i64 p] (.tup [.i .i64 0, .i .i64 e]) := by
  refine .of2 (x := .ret) (e := [(6, .i .i64 0), (7, .i .i64 e)]) (H' := []) (hF.S _ _ (by decide)) (d := d25) (by rw [hF.F]; rfl) rfl ?_ (.inl rfl) rfl (by simp) (by simp [sn_i, sn_b, sn_nil, sn8_i, sn8_b, sn8_nil, sn7_i, sn7_b, sn_sl, sn8_sl, slB_some, sn_tup, sn_agg, sn8_agg, mapO, elems])
  simp [d25, c25, zipE, go_nil, go_last, go_past, go_pastR, go_blkN, go_blkR, go_blkE, go_skip, go_exit, go_ret, go_scope, go_seq, go_reg, go_block, go_cond, cnd_b, go_opsN, go_ops, go_opsG, grd_b, grd_u, stp_some, fin_some, up_some, cont_some, k_call, k_mv, k_pick, k_bin, k_eqB, k_eqA, k_not, k_neg, k_conv, k_alloc, k_boxA, k_boxI, k_boxB, k_boxN, k_boxBs, k_ldR, k_ldA, k_ldI, k_ldB, k_stA, k_stI, k_stB, ldC_some, stC_some, k_mkfn, k_slc, k_slcA, k_ixA, k_ixBs, k_ixSl, k_fadr, k_fld, k_ext, k_len, k_app, k_mn, k_mx, k_nilck, k_build, k_bsl1, k_bsl2, b_add, b_sub, b_mul, b_eql, b_neq, b_lss, b_leq, b_gtr, b_geq, Dn.setLast, Dn.getLast, evalO, mapO, Dn.get, putE, keepE, TV.one, TV.isAgg, Dn.part, ecall24 hF he h, he]

theorem e27 (h : Opn0 pg n l e) : Fn pg 27 [.i .i64 n, LT true l] (.tup [.nilsl, .i .i64 e]) := by
  refine .of2 (x := .ret) (e := [(4, .nilsl), (5, .i .i64 e)]) (H' := []) (hF.S _ _ (by decide)) (d := d27) (by rw [hF.F]; rfl) rfl ?_ (.inl rfl) rfl (by simp) (by simp [sn_i, sn_b, sn_nil, sn8_i, sn8_b, sn8_nil, sn7_i, sn7_b, sn_sl, sn8_sl, slB_some, sn_tup, sn_agg, sn8_agg, mapO, elems])
  simp [d27, c27, zipE, go_nil, go_last, go_past, go_pastR, go_blkN, go_blkR, go_blkE, go_skip, go_exit, go_ret, go_scope, go_seq, go_reg, go_block, go_cond, cnd_b, go_opsN, go_ops, go_opsG, grd_b, grd_u, stp_some, fin_some, up_some, cont_some, k_call, k_mv, k_pick, k_bin, k_eqB, k_eqA, k_not, k_neg, k_conv, k_alloc, k_boxA, k_boxI, k_boxB, k_boxN, k_boxBs, k_ldR, k_ldA, k_ldI, k_ldB, k_stA, k_stI, k_stB, ldC_some, stC_some, k_mkfn, k_slc, k_slcA, k_ixA, k_ixBs, k_ixSl, k_fadr, k_fld, k_ext, k_len, k_app, k_mn, k_mx, k_nilck, k_build, k_bsl1, k_bsl2, b_add, b_sub, b_mul, b_eql, b_neq, b_lss, b_leq, b_gtr, b_geq, Dn.setLast, Dn.getLast, evalO, mapO, Dn.get, putE, keepE, TV.one, TV.isAgg, Dn.part, h.call, he]

theorem e28 (h : Opn pg n l [.i .i64 p, .i .i64 q] e) : Fn pg 28 [.i .i64 n, LT true l, .i .i64 p, .i .i64 q] (.tup [.b false, .i .i64 e]) := by
  refine .of2 (x := .ret) (e := [(8, .b false), (9, .i .i64 e)]) (H' := [.cells [.i .i64 p] false, .cells [.i .i64 q] false, .cells [.i .i64 p, .i .i64 q] false]) (hF.S _ _ (by decide)) (d := d28) (by rw [hF.F]; rfl) rfl ?_ (.inl rfl) rfl (by simp) (by simp [sn_i, sn_b, sn_nil, sn8_i, sn8_b, sn8_nil, sn7_i, sn7_b, sn_sl, sn8_sl, slB_some, sn_tup, sn_agg, sn8_agg, mapO, elems])
  simp [d28, c28, zipE, go_nil, go_last, go_past, go_pastR, go_blkN, go_blkR, go_blkE, go_skip, go_exit, go_ret, go_scope, go_seq, go_reg, go_block, go_cond, cnd_b, go_opsN, go_ops, go_opsG, grd_b, grd_u, stp_some, fin_some, up_some, cont_some, k_call, k_mv, k_pick, k_bin, k_eqB, k_eqA, k_not, k_neg, k_conv, k_alloc, k_boxA, k_boxI, k_boxB, k_boxN, k_boxBs, k_ldR, k_ldA, k_ldI, k_ldB, k_stA, k_stI, k_stB, ldC_some, stC_some, k_mkfn, k_slc, k_slcA, k_ixA, k_ixBs, k_ixSl, k_fadr, k_fld, k_ext, k_len, k_app, k_mn, k_mx, k_nilck, k_build, k_bsl1, k_bsl2, b_add, b_sub, b_mul, b_eql, b_neq, b_lss, b_leq, b_gtr, b_geq, Dn.setLast, Dn.getLast, evalO, mapO, Dn.get, putE, keepE, TV.one, TV.isAgg, Dn.part, h.call2, he]

theorem e31 (g : TV) (h : Opn0 pg n l e) : Fn pg 31 [.i .i64 n, LT true l, g] (.tup [.b false, .i .i64 e]) := by
  refine .of2 (x := .ret) (e := [(6, .b false), (7, .i .i64 e)]) (H' := []) (hF.S _ _ (by decide)) (d := d31) (by rw [hF.F]; rfl) rfl ?_ (.inl rfl) rfl (by simp) (by simp [sn_i, sn_b, sn_nil, sn8_i, sn8_b, sn8_nil, sn7_i, sn7_b, sn_sl, sn8_sl, slB_some, sn_tup, sn_agg, sn8_agg, mapO, elems])
  simp [d31, c31, zipE, go_nil, go_last, go_past, go_pastR, go_blkN, go_blkR, go_blkE, go_skip, go_exit, go_ret, go_scope, go_seq, go_reg, go_block, go_cond, cnd_b, go_opsN, go_ops, go_opsG, grd_b, grd_u, stp_some, fin_some, up_some, cont_some, k_call, k_mv, k_pick, k_bin, k_eqB, k_eqA, k_not, k_neg, k_conv, k_alloc, k_boxA, k_boxI, k_boxB, k_boxN, k_boxBs, k_ldR, k_ldA, k_ldI, k_ldB, k_stA, k_stI, k_stB, ldC_some, stC_some, k_mkfn, k_slc, k_slcA, k_ixA, k_ixBs, k_ixSl, k_fadr, k_fld, k_ext, k_len, k_app, k_mn, k_mx, k_nilck, k_build, k_bsl1, k_bsl2, b_add, b_sub, b_mul, b_eql, b_neq, b_lss, b_leq, b_gtr, b_geq, Dn.setLast, Dn.getLast, evalO, mapO, Dn.get, putE, keepE, TV.one, TV.isAgg, Dn.part, h.call, he]

theorem e32 (g : TV) (h : Opn pg n l [.i .i64 p, .i .i64 q] e) : Fn pg 32 [.i .i64 n, LT true l, .i .i64 p, .i .i64 q, g] (.tup [.b false, .i .i64 e]) := by
  refine .of2 (x := .ret) (e := [(10, .b false), (11, .i .i64 e)]) (H' := [.cells [.i .i64 p, .i .i64 q] false]) (hF.S _ _ (by decide)) (d := d32) (by rw [hF.F]; rfl) rfl ?_ (.inl rfl) rfl (by simp) (by simp [sn_i, sn_b, sn_nil, sn8_i, sn8_b, sn8_nil, sn7_i, sn7_b, sn_sl, sn8_sl, slB_some, sn_tup, sn_agg, sn8_agg, mapO, elems])
  simp [d32, c32, zipE, go_nil, go_last, go_past, go_pastR, go_blkN, go_blkR, go_blkE, go_skip, go_exit, go_ret, go_scope, go_seq, go_reg, go_block, go_cond, cnd_b, go_opsN, go_ops, go_opsG, grd_b, grd_u, stp_some, fin_some, up_some, cont_some, k_call, k_mv, k_pick, k_bin, k_eqB, k_eqA, k_not, k_neg, k_conv, k_alloc, k_boxA, k_boxI, k_boxB, k_boxN, k_boxBs, k_ldR, k_ldA, k_ldI, k_ldB, k_stA, k_stI, k_stB, ldC_some, stC_some, k_mkfn, k_slc, k_slcA, k_ixA, k_ixBs, k_ixSl, k_fadr, k_fld, k_ext, k_len, k_app, k_mn, k_mx, k_nilck, k_build, k_bsl1, k_bsl2, b_add, b_sub, b_mul, b_eql, b_neq, b_lss, b_leq, b_gtr, b_geq, Dn.setLast, Dn.getLast, evalO, mapO, Dn.get, putE, keepE, TV.one, TV.isAgg, Dn.part, h.call2, he]

theorem e66 (h : Opn pg n l [.i .i64 p, .i .i64 q] e) : Fn pg 66 [.i .i64 n, LT true l, .i .i64 p, .i .i64 q] (.i .i64 e) := by
  refine .of1 (x := .ret) (e := [(8, .i .i64 e)]) (H' := [.cells [.i .i64 p, .i .i64 q] false]) (hF.S _ _ (by decide)) (d := d66) (by rw [hF.F]; rfl) rfl ?_ (.inl rfl) (by first | rfl | simp [d66, resRun, mapO, Dn.get, dk, Dn.part, TV.isAgg]) (by simp [sn_i, sn_b, sn_nil, sn8_i, sn8_b, sn8_nil, sn7_i, sn7_b, sn_sl, sn8_sl, slB_some, sn_tup, sn_agg, sn8_agg, mapO, elems])
  simp [d66, c66, zipE, go_nil, go_last, go_past, go_pastR, go_blkN, go_blkR, go_blkE, go_skip, go_exit, go_ret, go_scope, go_seq, go_reg, go_block, go_cond, cnd_b, go_opsN, go_ops, go_opsG, grd_b, grd_u, stp_some, fin_some, up_some, cont_some, k_call, k_mv, k_pick, k_bin, k_eqB, k_eqA, k_not, k_neg, k_conv, k_alloc, k_boxA, k_boxI, k_boxB, k_boxN, k_boxBs, k_ldR, k_ldA, k_ldI, k_ldB, k_stA, k_stI, k_stB, ldC_some, stC_some, k_mkfn, k_slc, k_slcA, k_ixA, k_ixBs, k_ixSl, k_fadr, k_fld, k_ext, k_len, k_app, k_mn, k_mx, k_nilck, k_build, k_bsl1, k_bsl2, b_add, b_sub, b_mul, b_eql, b_neq, b_lss, b_leq, b_gtr, b_geq, Dn.setLast, Dn.getLast, evalO, mapO, Dn.get, putE, keepE, TV.one, TV.isAgg, Dn.part, h.call2, he]

theorem ecall66 (h : Opn pg n l [.i .i64 p, .i .i64 q] e) (H : Heap) : callRun pg (den pg) (.pu []) [.fn 66 [] [], .i .i64 n, LT true l, .i .i64 p, .i .i64 q] H = some (.i .i64 e, H) :=
  Fn.call (e66 hF he h) (args := [.i .i64 n, LT true l, .i .i64 p, .i .i64 q]) (by simp [snapArgs, sn_i, sn_b, sn_nil, sn8_i, sn8_b, sn8_nil, sn7_i, sn7_b, sn_sl, sn8_sl, slB_some, sn_tup, sn_agg, sn8_agg, mapO, elems, LT_call])

theorem e41 (h : Opn pg n l [.i .i64 p, .i .i64 q] e) : Fn pg 41 [.i .i64 n, LT true l, .i .i64 p, .i .i64 q] (.tup [.nilsl, .b false, .i .i64 e]) := by
  refine .of2 (x := .ret) (e := [(8, .nilsl), (9, .b false), (10, .i .i64 e)]) (H' := []) (hF.S _ _ (by decide)) (d := d41) (by rw [hF.F]; rfl) rfl ?_ (.inl rfl) rfl (by simp) (by simp [sn_i, sn_b, sn_nil, sn8_i, sn8_b, sn8_nil, sn7_i, sn7_b, sn_sl, sn8_sl, slB_some, sn_tup, sn_agg, sn8_agg, mapO, elems])
  simp [d41, c41, zipE, go_nil, go_last, go_past, go_pastR, go_blkN, go_blkR, go_blkE, go_skip, go_exit, go_ret, go_scope, go_seq, go_reg, go_block, go_cond, cnd_b, go_opsN, go_ops, go_opsG, grd_b, grd_u, stp_some, fin_some, up_some, cont_some, k_call, k_mv, k_pick, k_bin, k_eqB, k_eqA, k_not, k_neg, k_conv, k_alloc, k_boxA, k_boxI, k_boxB, k_boxN, k_boxBs, k_ldR, k_ldA, k_ldI, k_ldB, k_stA, k_stI, k_stB, ldC_some, stC_some, k_mkfn, k_slc, k_slcA, k_ixA, k_ixBs, k_ixSl, k_fadr, k_fld, k_ext, k_len, k_app, k_mn, k_mx, k_nilck, k_build, k_bsl1, k_bsl2, b_add, b_sub, b_mul, b_eql, b_neq, b_lss, b_leq, b_gtr, b_geq, Dn.setLast, Dn.getLast, evalO, mapO, Dn.get, putE, keepE, TV.one, TV.isAgg, Dn.part, ecall66 hF he h, he]

theorem e42 (h : Opn pg n l [.i .i64 p, .i .i64 q] e) : Fn pg 42 [.i .i64 n, LT true l, .i .i64 p, .i .i64 q] (.tup [.i .i64 0, .nilsl, .b false, .i .i64 e]) := by
  refine .of2 (x := .ret) (e := [(8, .i .i64 0), (9, .nilsl), (10, .b false), (11, .i .i64 e)]) (H' := []) (hF.S _ _ (by decide)) (d := d42) (by rw [hF.F]; rfl) rfl ?_ (.inl rfl) rfl (by simp) (by simp [sn_i, sn_b, sn_nil, sn8_i, sn8_b, sn8_nil, sn7_i, sn7_b, sn_sl, sn8_sl, slB_some, sn_tup, sn_agg, sn8_agg, mapO, elems])
  simp [d42, c42, zipE, go_nil, go_last, go_past, go_pastR, go_blkN, go_blkR, go_blkE, go_skip, go_exit, go_ret, go_scope, go_seq, go_reg, go_block, go_cond, cnd_b, go_opsN, go_ops, go_opsG, grd_b, grd_u, stp_some, fin_some, up_some, cont_some, k_call, k_mv, k_pick, k_bin, k_eqB, k_eqA, k_not, k_neg, k_conv, k_alloc, k_boxA, k_boxI, k_boxB, k_boxN, k_boxBs, k_ldR, k_ldA, k_ldI, k_ldB, k_stA, k_stI, k_stB, ldC_some, stC_some, k_mkfn, k_slc, k_slcA, k_ixA, k_ixBs, k_ixSl, k_fadr, k_fld, k_ext, k_len, k_app, k_mn, k_mx, k_nilck, k_build, k_bsl1, k_bsl2, b_add, b_sub, b_mul, b_eql, b_neq, b_lss, b_leq, b_gtr, b_geq, Dn.setLast, Dn.getLast, evalO, mapO, Dn.get, putE, keepE, TV.one, TV.isAgg, Dn.part, ecall66 hF he h, he]

theorem e36 (m : Int) (h : Opn pg n l [.i .i64 p, .i .i64 q] e) : Fn pg 36 [.i .i64 n, LT true l, .i .i64 p, .i .i64 q, .i .i64 m, .nilsl] (.b false) := by
  refine .of1 (x := .ret) (e := [(12, .ref 1 0)]) (H' := [.cells [.nilsl] false, .cells [.b false] false, .cells [.i .i64 p, .i .i64 q] false]) (hF.S _ _ (by decide)) (d := d36) (by rw [hF.F]; rfl) rfl ?_ (.inl rfl) (by first | rfl | simp [d36, resRun, mapO, Dn.get, dk, Dn.part, TV.isAgg]) (by simp [sn_i, sn_b, sn_nil, sn8_i, sn8_b, sn8_nil, sn7_i, sn7_b, sn_sl, sn8_sl, slB_some, sn_tup, sn_agg, sn8_agg, mapO, elems])
  simp [d36, c36, zipE, go_nil, go_last, go_past, go_pastR, go_blkN, go_blkR, go_blkE, go_skip, go_exit, go_ret, go_scope, go_seq, go_reg, go_block, go_cond, cnd_b, go_opsN, go_ops, go_opsG, grd_b, grd_u, stp_some, fin_some, up_some, cont_some, k_call, k_mv, k_pick, k_bin, k_eqB, k_eqA, k_not, k_neg, k_conv, k_alloc, k_boxA, k_boxI, k_boxB, k_boxN, k_boxBs, k_ldR, k_ldA, k_ldI, k_ldB, k_stA, k_stI, k_stB, ldC_some, stC_some, k_mkfn, k_slc, k_slcA, k_ixA, k_ixBs, k_ixSl, k_fadr, k_fld, k_ext, k_len, k_app, k_mn, k_mx, k_nilck, k_build, k_bsl1, k_bsl2, b_add, b_sub, b_mul, b_eql, b_neq, b_lss, b_leq, b_gtr, b_geq, Dn.setLast, Dn.getLast, evalO, mapO, Dn.get, putE, keepE, TV.one, TV.isAgg, Dn.part, h.call2, he, put2]

theorem e36b (m : Int) (b : Bool) (es : List TV) (h : Opn pg n l [.i .i64 p, .i .i64 q] e) : Fn pg 36 [.i .i64 n, LT true l, .i .i64 p, .i .i64 q, .i .i64 m, .bs b 2 es] (.b false) := by
  refine .of1 (x := .ret) (e := [(12, .ref 1 0)]) (H' := [.cells [.bs b 2 es] false, .cells [.b false] false, .cells [.i .i64 p, .i .i64 q] false]) (hF.S _ _ (by decide)) (d := d36) (by rw [hF.F]; rfl) rfl ?_ (.inl rfl) (by first | rfl | simp [d36, resRun, mapO, Dn.get, dk, Dn.part, TV.isAgg]) (by simp [sn_i, sn_b, sn_nil, sn8_i, sn8_b, sn8_nil, sn7_i, sn7_b, sn_sl, sn8_sl, slB_some, sn_tup, sn_agg, sn8_agg, mapO, elems])
  simp [d36, c36, zipE, go_nil, go_last, go_past, go_pastR, go_blkN, go_blkR, go_blkE, go_skip, go_exit, go_ret, go_scope, go_seq, go_reg, go_block, go_cond, cnd_b, go_opsN, go_ops, go_opsG, grd_b, grd_u, stp_some, fin_some, up_some, cont_some, k_call, k_mv, k_pick, k_bin, k_eqB, k_eqA, k_not, k_neg, k_conv, k_alloc, k_boxA, k_boxI, k_boxB, k_boxN, k_boxBs, k_ldR, k_ldA, k_ldI, k_ldB, k_stA, k_stI, k_stB, ldC_some, stC_some, k_mkfn, k_slc, k_slcA, k_ixA, k_ixBs, k_ixSl, k_fadr, k_fld, k_ext, k_len, k_app, k_mn, k_mx, k_nilck, k_build, k_bsl1, k_bsl2, b_add, b_sub, b_mul, b_eql, b_neq, b_lss, b_leq, b_gtr, b_geq, Dn.setLast, Dn.getLast, evalO, mapO, Dn.get, putE, keepE, TV.one, TV.isAgg, Dn.part, h.call2, he, put2]

end
end Go.Proofs.Try.Dn

/-
  Lines as cells; own.
-/

namespace Go.Proofs.Try.Dn
open Go.Dn

def flat : List Line → List TV
  | [] => []
  | x :: l => .i .i64 x.1 :: .i .i64 x.2.1 :: .i .i64 x.2.2 :: flat l

theorem flat_cells : ∀ l : List Line, (l.map lineTV).flatMap TV.cells = flat l
  | [] => rfl
  | x :: l => by simp [flat, lineTV, TV.cells, ← flat_cells l]

theorem flat_len : ∀ l : List Line, (flat l).length = l.length * 3
  | [] => rfl
  | x :: l => by simp only [flat, List.length_cons, flat_len l]; omega

theorem flat_all : ∀ l : List Line, (flat l).all TV.one = true
  | [] => rfl
  | x :: l => by simp [flat, TV.one, flat_all l]

theorem flat_append : ∀ l m : List Line, flat (l ++ m) = flat l ++ flat m
  | [], m => rfl
  | x :: l, m => by simp [flat, flat_append l m]

theorem flat_take : ∀ (l : List Line) (k : Nat), (flat l).take (k * 3) = flat (l.take k)
  | [], k => by simp [flat]
  | x :: l, 0 => by simp [flat]
  | x :: l, k + 1 => by
    rw [show (k + 1) * 3 = k * 3 + 1 + 1 + 1 by omega]
    simp only [flat, List.take_succ_cons, flat_take l k]

theorem flat_drop : ∀ (l : List Line) (k : Nat), (flat l).drop (k * 3) = flat (l.drop k)
  | [], k => by simp [flat]
  | x :: l, 0 => by simp [flat]
  | x :: l, k + 1 => by
    rw [show (k + 1) * 3 = k * 3 + 1 + 1 + 1 by omega]
    simp only [flat, List.drop_succ_cons, flat_drop l k]

theorem chunk_flat : ∀ l : List Line, chunk 3 l.length (flat l) = l.map lineTV
  | [] => rfl
  | x :: l => by
    simp only [List.length_cons, chunk, flat, List.map_cons, lineTV, List.take_succ_cons, List.take_zero, List.drop_succ_cons, List.drop_zero, chunk_flat l]

/-- a slice of lines in the heap, as a value -/
theorem snap_sl (m : SM) (hm : m ≠ .keep) (H : Heap) (id : Nat) (l : List Line) (cap : Option Nat) (c : List TV) (off : Nat) (ag : Bool) (h : H[id]? = some (.cells c ag)) (h2 : off + l.length * 3 ≤ c.length) (hc : (c.drop off).take (l.length * 3) = flat l) :
    snap m H 9 (.sl id off 3 true l.length cap) = some (.bs (m == .borrow) 3 (l.map lineTV)) := by
  rw [sn_sl _ hm, h, slB_some, if_pos ⟨h2, .inl rfl⟩, hc]
  simp only [elems, if_true, chunk_flat, mapO_lines m H 6, Option.map_some]

theorem app_nil {l : List Line} {b : Bool} {H : Heap} (hne : l ≠ []) (hl : l.length ≤ 1000) :
    appRun 3 true 24 .nilsl (.bs b 3 (l.map lineTV)) H = some (.sl H.length 0 3 true l.length none, H ++ [.cells (flat l) false]) := by
  have h0 : ¬ l.length = 0 := by simpa using hne
  have h1 : l.length * 24 ≤ 140737488355328 := by omega
  simp only [appRun, lenOf, flatOf, List.length_map, Option.bind_some, if_true, flat_cells, flat_all, flat_len, Nat.zero_add, h1, and_self, if_neg h0]

theorem LT_cases (b : Bool) (l : List Line) : (l = [] ∧ LT b l = .nilsl) ∨ (l ≠ [] ∧ LT b l = .bs b 3 (l.map lineTV)) := by
  cases l with
  | nil => exact .inl ⟨rfl, rfl⟩
  | cons x l => exact .inr ⟨by simp, LT_ne (by simp)⟩

/-- the first lines, as 'own' copies them -/
theorem fn44 {pg : Pg} (hF : Free pg) {t : TV} {l : List Line} (ht : t = .nilsl ∧ l = [] ∨ ∃ b, t = .bs b 3 (l.map lineTV)) : Fn pg 44 [t] (LT false (l.take 41)) := by
  have hd : pg.F 44 = some d44 := by rw [hF.F]; rfl
  have hS := hF.S 44 [t] (by decide)
  rcases ht with ⟨rfl, rfl⟩ | ⟨b, rfl⟩
  · refine .of1 (x := .ret) (e := [(2, .nilsl)]) (H' := []) hS hd rfl ?_ (.inl rfl) rfl (by simp [sn_i, sn_b, sn_nil, sn8_i, sn8_b, sn8_nil, sn7_i, sn7_b, sn_sl, sn8_sl, slB_some, sn_tup, sn_agg, sn8_agg, mapO, elems, LT])
    simp [d44, c44, zipE, go_nil, go_last, go_past, go_pastR, go_blkN, go_blkR, go_blkE, go_skip, go_exit, go_ret, go_scope, go_seq, go_reg, go_block, go_cond, cnd_b, go_opsN, go_ops, go_opsG, grd_b, grd_u, stp_some, fin_some, up_some, cont_some, k_call, k_mv, k_pick, k_bin, k_eqB, k_eqA, k_not, k_neg, k_conv, k_alloc, k_boxA, k_boxI, k_boxB, k_boxN, k_boxBs, k_ldR, k_ldA, k_ldI, k_ldB, k_stA, k_stI, k_stB, ldC_some, stC_some, k_mkfn, k_slc, k_slcA, k_ixA, k_ixBs, k_ixSl, k_fadr, k_fld, k_ext, k_len, k_app, k_mn, k_mx, k_nilck, k_build, k_bsl1, k_bsl2, b_add, b_sub, b_mul, b_eql, b_neq, b_lss, b_leq, b_gtr, b_geq, Dn.setLast, Dn.getLast, evalO, mapO, Dn.get, putE, keepE, TV.one, TV.isAgg, Dn.part, lenK, slcRun, bounds3, bound, appRun, lenOf, flatOf]
  · by_cases hl : l = []
    · subst hl
      refine .of1 (x := .ret) (e := [(2, .nilsl)]) (H' := []) hS hd rfl ?_ (.inl rfl) rfl (by simp [sn_i, sn_b, sn_nil, sn8_i, sn8_b, sn8_nil, sn7_i, sn7_b, sn_sl, sn8_sl, slB_some, sn_tup, sn_agg, sn8_agg, mapO, elems, LT])
      simp [d44, c44, zipE, go_nil, go_last, go_past, go_pastR, go_blkN, go_blkR, go_blkE, go_skip, go_exit, go_ret, go_scope, go_seq, go_reg, go_block, go_cond, cnd_b, go_opsN, go_ops, go_opsG, grd_b, grd_u, stp_some, fin_some, up_some, cont_some, k_call, k_mv, k_pick, k_bin, k_eqB, k_eqA, k_not, k_neg, k_conv, k_alloc, k_boxA, k_boxI, k_boxB, k_boxN, k_boxBs, k_ldR, k_ldA, k_ldI, k_ldB, k_stA, k_stI, k_stB, ldC_some, stC_some, k_mkfn, k_slc, k_slcA, k_ixA, k_ixBs, k_ixSl, k_fadr, k_fld, k_ext, k_len, k_app, k_mn, k_mx, k_nilck, k_build, k_bsl1, k_bsl2, b_add, b_sub, b_mul, b_eql, b_neq, b_lss, b_leq, b_gtr, b_geq, Dn.setLast, Dn.getLast, evalO, mapO, Dn.get, putE, keepE, TV.one, TV.isAgg, Dn.part, lenK, slcRun, bounds3, bound, appRun, lenOf, flatOf]
    · have hne : l.take 41 ≠ [] := by simp [hl]
      have happ := app_nil (b := b) (H := []) hne (by simp; omega)
      rw [LT_ne hne]
      refine .of_go (x := .ret) (e := [(2, .sl 0 0 3 true (l.take 41).length none)]) (H' := [.cells (flat (l.take 41)) false]) hS hd rfl ?_ (.inl rfl) rfl ?_
      · by_cases h41 : (41 : Int) < l.length
        · have h41' : 41 ≤ l.length := by omega
          simp [d44, c44, zipE, go_nil, go_last, go_past, go_pastR, go_blkN, go_blkR, go_blkE, go_skip, go_exit, go_ret, go_scope, go_seq, go_reg, go_block, go_cond, cnd_b, go_opsN, go_ops, go_opsG, grd_b, grd_u, stp_some, fin_some, up_some, cont_some, k_call, k_mv, k_pick, k_bin, k_eqB, k_eqA, k_not, k_neg, k_conv, k_alloc, k_boxA, k_boxI, k_boxB, k_boxN, k_boxBs, k_ldR, k_ldA, k_ldI, k_ldB, k_stA, k_stI, k_stB, ldC_some, stC_some, k_mkfn, k_slc, k_slcA, k_ixA, k_ixBs, k_ixSl, k_fadr, k_fld, k_ext, k_len, k_app, k_mn, k_mx, k_nilck, k_build, k_bsl1, k_bsl2, b_add, b_sub, b_mul, b_eql, b_neq, b_lss, b_leq, b_gtr, b_geq, Dn.setLast, Dn.getLast, evalO, mapO, Dn.get, putE, keepE, TV.one, TV.isAgg, Dn.part, lenK, slcRun, bounds3, bound, h41, h41']
          simp [h41'] at happ
          simp [happ, go_nil, go_last, go_past, go_pastR, go_blkN, go_blkR, go_blkE, go_skip, go_exit, go_ret, go_scope, go_seq, go_reg, go_block, go_cond, cnd_b, go_opsN, go_ops, go_opsG, grd_b, grd_u, stp_some, fin_some, up_some, cont_some, k_call, k_mv, k_pick, k_bin, k_eqB, k_eqA, k_not, k_neg, k_conv, k_alloc, k_boxA, k_boxI, k_boxB, k_boxN, k_boxBs, k_ldR, k_ldA, k_ldI, k_ldB, k_stA, k_stI, k_stB, ldC_some, stC_some, k_mkfn, k_slc, k_slcA, k_ixA, k_ixBs, k_ixSl, k_fadr, k_fld, k_ext, k_len, k_app, k_mn, k_mx, k_nilck, k_build, k_bsl1, k_bsl2, b_add, b_sub, b_mul, b_eql, b_neq, b_lss, b_leq, b_gtr, b_geq, Dn.setLast, Dn.getLast, evalO, mapO, Dn.get, putE, keepE, TV.one, TV.isAgg, Dn.part]
        · have h41' : l.length ≤ 41 := by omega
          simp [d44, c44, zipE, go_nil, go_last, go_past, go_pastR, go_blkN, go_blkR, go_blkE, go_skip, go_exit, go_ret, go_scope, go_seq, go_reg, go_block, go_cond, cnd_b, go_opsN, go_ops, go_opsG, grd_b, grd_u, stp_some, fin_some, up_some, cont_some, k_call, k_mv, k_pick, k_bin, k_eqB, k_eqA, k_not, k_neg, k_conv, k_alloc, k_boxA, k_boxI, k_boxB, k_boxN, k_boxBs, k_ldR, k_ldA, k_ldI, k_ldB, k_stA, k_stI, k_stB, ldC_some, stC_some, k_mkfn, k_slc, k_slcA, k_ixA, k_ixBs, k_ixSl, k_fadr, k_fld, k_ext, k_len, k_app, k_mn, k_mx, k_nilck, k_build, k_bsl1, k_bsl2, b_add, b_sub, b_mul, b_eql, b_neq, b_lss, b_leq, b_gtr, b_geq, Dn.setLast, Dn.getLast, evalO, mapO, Dn.get, putE, keepE, TV.one, TV.isAgg, Dn.part, lenK, slcRun, bounds3, bound, h41, h41']
          simp [List.take_of_length_le h41'] at happ
          have ht : (l.map lineTV).take l.length = l.map lineTV := List.take_of_length_le (by simp)
          simp [happ, ht, go_nil, go_last, go_past, go_pastR, go_blkN, go_blkR, go_blkE, go_skip, go_exit, go_ret, go_scope, go_seq, go_reg, go_block, go_cond, cnd_b, go_opsN, go_ops, go_opsG, grd_b, grd_u, stp_some, fin_some, up_some, cont_some, k_call, k_mv, k_pick, k_bin, k_eqB, k_eqA, k_not, k_neg, k_conv, k_alloc, k_boxA, k_boxI, k_boxB, k_boxN, k_boxBs, k_ldR, k_ldA, k_ldI, k_ldB, k_stA, k_stI, k_stB, ldC_some, stC_some, k_mkfn, k_slc, k_slcA, k_ixA, k_ixBs, k_ixSl, k_fadr, k_fld, k_ext, k_len, k_app, k_mn, k_mx, k_nilck, k_build, k_bsl1, k_bsl2, b_add, b_sub, b_mul, b_eql, b_neq, b_lss, b_leq, b_gtr, b_geq, Dn.setLast, Dn.getLast, evalO, mapO, Dn.get, putE, keepE, TV.one, TV.isAgg, Dn.part, List.take_of_length_le h41', h41']
      · exact snap_sl .fin (by decide) _ 0 _ _ _ 0 false rfl (by rw [flat_len]; omega) (by rw [List.drop_zero, ← flat_len]; exact List.take_length)

end Go.Proofs.Try.Dn

/-
  PegChecks: the run.
-/

namespace Go.Proofs.Try.Dn
open Go.Dn

theorem free2 : Free pg2 where
  F := rfl
  S f xs h := by
    show S22 f xs = none
    unfold S22
    split
    · exact absurd rfl h
    · rfl

theorem call22 (H : Heap) : callRun pg2 (den pg2) (.pu []) [.fn 22 [] []] H = some (.b true, H) :=
  Fn.call (.inl rfl : Fn pg2 22 [] (.b true)) (args := []) (by simp [snapArgs])

theorem call44 {pg : Pg} (hF : Free pg) {t : TV} {l : List Line} (ht : IsLines t l) (H : Heap) : callRun pg (den pg) (.pu []) [.fn 44 [] [], t] H = some (LT false (l.take 41), H) := by
  rcases ht.1 with ⟨rfl, rfl⟩ | rfl
  · exact Fn.call (fn44 hF (.inl ⟨rfl, rfl⟩)) (args := [.nilsl]) (by simp [snapArgs, sn_i, sn_b, sn_nil, sn8_i, sn8_b, sn8_nil, sn7_i, sn7_b, sn_sl, sn8_sl, slB_some, sn_tup, sn_agg, sn8_agg, mapO, elems])
  · exact Fn.call (fn44 hF (.inr ⟨true, rfl⟩)) (args := [linesTV l]) (by simp [snapArgs, linesTV, snap_bs, mapO_lines .borrow H 6 l])

theorem call46 {pg : Pg} (hF : Free pg) (n : Int) (b : Bool) (l : List Line) (H : Heap) : callRun pg (den pg) (.pu []) [.fn 46 [] [], .i .i64 n, LT b l] H = some (.i .i64 (chk n l), H) :=
  Fn.call (fn46 hF n true l) (args := [.i .i64 n, LT b l]) (by simp [snapArgs, sn_i, sn_b, sn_nil, sn8_i, sn8_b, sn8_nil, sn7_i, sn7_b, sn_sl, sn8_sl, slB_some, sn_tup, sn_agg, sn8_agg, mapO, elems, LT_call])

section
variable {pg : Pg} (hF : Free pg) {n : Int} {b : Bool} {l : List Line} {p q e : Int} (he : (e != 0) = true) (H : Heap)
include hF he
theorem c43e (h : Opn pg n l [.i .i64 p] e) : callRun pg (den pg) (.pu []) [.fn 43 [] [], .i .i64 n, LT b l, .i .i64 p] H = some (.tup [.nilsl, .i .i64 e], H) :=
  Fn.call (e43 hF he h) (args := [.i .i64 n, LT b l, .i .i64 p]) (by simp [snapArgs, sn_i, sn_b, sn_nil, sn8_i, sn8_b, sn8_nil, sn7_i, sn7_b, sn_sl, sn8_sl, slB_some, sn_tup, sn_agg, sn8_agg, mapO, elems, LT_call])
theorem c40e (h : Opn pg n l [.i .i64 p] e) : callRun pg (den pg) (.pu []) [.fn 40 [] [], .i .i64 n, LT b l, .i .i64 p, .nilsl] H = some (.tup [.i .i64 0, .i .i64 e], H) :=
  Fn.call (e40 hF he .nilsl h) (args := [.i .i64 n, LT b l, .i .i64 p, .nilsl]) (by simp [snapArgs, sn_i, sn_b, sn_nil, sn8_i, sn8_b, sn8_nil, sn7_i, sn7_b, sn_sl, sn8_sl, slB_some, sn_tup, sn_agg, sn8_agg, mapO, elems, LT_call])
theorem c20e (h : Opn pg n l [.i .i64 p, .i .i64 q] e) : callRun pg (den pg) (.pu []) [.fn 20 [] [], .i .i64 n, LT b l, .i .i64 p, .i .i64 q] H = some (.tup [.nilsl, .b false, .i .i64 e], H) :=
  Fn.call (e20 hF he h) (args := [.i .i64 n, LT b l, .i .i64 p, .i .i64 q]) (by simp [snapArgs, sn_i, sn_b, sn_nil, sn8_i, sn8_b, sn8_nil, sn7_i, sn7_b, sn_sl, sn8_sl, slB_some, sn_tup, sn_agg, sn8_agg, mapO, elems, LT_call])
theorem c24e (h : Opn pg n l [.i .i64 p] e) : callRun pg (den pg) (.pu []) [.fn 24 [] [], .i .i64 n, LT b l, .i .i64 p] H = some (.tup [.nilsl, .i .i64 e], H) :=
  Fn.call (e24 hF he h) (args := [.i .i64 n, LT b l, .i .i64 p]) (by simp [snapArgs, sn_i, sn_b, sn_nil, sn8_i, sn8_b, sn8_nil, sn7_i, sn7_b, sn_sl, sn8_sl, slB_some, sn_tup, sn_agg, sn8_agg, mapO, elems, LT_call])
theorem c25e (h : Opn pg n l [.i .i64 p] e) : callRun pg (den pg) (.pu []) [.fn 25 [] [], .i .i64 n, LT b l, .i .i64 p] H = some (.tup [.i .i64 0, .i .i64 e], H) :=
  Fn.call (e25 hF he h) (args := [.i .i64 n, LT b l, .i .i64 p]) (by simp [snapArgs, sn_i, sn_b, sn_nil, sn8_i, sn8_b, sn8_nil, sn7_i, sn7_b, sn_sl, sn8_sl, slB_some, sn_tup, sn_agg, sn8_agg, mapO, elems, LT_call])
theorem c27e (h : Opn0 pg n l e) : callRun pg (den pg) (.pu []) [.fn 27 [] [], .i .i64 n, LT b l] H = some (.tup [.nilsl, .i .i64 e], H) :=
  Fn.call (e27 hF he h) (args := [.i .i64 n, LT b l]) (by simp [snapArgs, sn_i, sn_b, sn_nil, sn8_i, sn8_b, sn8_nil, sn7_i, sn7_b, sn_sl, sn8_sl, slB_some, sn_tup, sn_agg, sn8_agg, mapO, elems, LT_call])
theorem c28e (h : Opn pg n l [.i .i64 p, .i .i64 q] e) : callRun pg (den pg) (.pu []) [.fn 28 [] [], .i .i64 n, LT b l, .i .i64 p, .i .i64 q] H = some (.tup [.b false, .i .i64 e], H) :=
  Fn.call (e28 hF he h) (args := [.i .i64 n, LT b l, .i .i64 p, .i .i64 q]) (by simp [snapArgs, sn_i, sn_b, sn_nil, sn8_i, sn8_b, sn8_nil, sn7_i, sn7_b, sn_sl, sn8_sl, slB_some, sn_tup, sn_agg, sn8_agg, mapO, elems, LT_call])
theorem c31e (h : Opn0 pg n l e) : callRun pg (den pg) (.pu []) [.fn 31 [] [], .i .i64 n, LT b l, .nilsl] H = some (.tup [.b false, .i .i64 e], H) :=
  Fn.call (e31 hF he .nilsl h) (args := [.i .i64 n, LT b l, .nilsl]) (by simp [snapArgs, sn_i, sn_b, sn_nil, sn8_i, sn8_b, sn8_nil, sn7_i, sn7_b, sn_sl, sn8_sl, slB_some, sn_tup, sn_agg, sn8_agg, mapO, elems, LT_call])
theorem c32e (g g' : TV) (hg : snap .borrow H 9 g = some g') (h : Opn pg n l [.i .i64 p, .i .i64 q] e) : callRun pg (den pg) (.pu []) [.fn 32 [] [], .i .i64 n, LT b l, .i .i64 p, .i .i64 q, g] H = some (.tup [.b false, .i .i64 e], H) :=
  Fn.call (e32 hF he g' h) (args := [.i .i64 n, LT b l, .i .i64 p, .i .i64 q, g]) (by simp [snapArgs, sn_i, sn_b, sn_nil, sn8_i, sn8_b, sn8_nil, sn7_i, sn7_b, sn_sl, sn8_sl, slB_some, sn_tup, sn_agg, sn8_agg, mapO, elems, LT_call, hg])
theorem c41e (h : Opn pg n l [.i .i64 p, .i .i64 q] e) : callRun pg (den pg) (.pu []) [.fn 41 [] [], .i .i64 n, LT b l, .i .i64 p, .i .i64 q] H = some (.tup [.nilsl, .b false, .i .i64 e], H) :=
  Fn.call (e41 hF he h) (args := [.i .i64 n, LT b l, .i .i64 p, .i .i64 q]) (by simp [snapArgs, sn_i, sn_b, sn_nil, sn8_i, sn8_b, sn8_nil, sn7_i, sn7_b, sn_sl, sn8_sl, slB_some, sn_tup, sn_agg, sn8_agg, mapO, elems, LT_call])
theorem c42e (h : Opn pg n l [.i .i64 p, .i .i64 q] e) : callRun pg (den pg) (.pu []) [.fn 42 [] [], .i .i64 n, LT b l, .i .i64 p, .i .i64 q] H = some (.tup [.i .i64 0, .nilsl, .b false, .i .i64 e], H) :=
  Fn.call (e42 hF he h) (args := [.i .i64 n, LT b l, .i .i64 p, .i .i64 q]) (by simp [snapArgs, sn_i, sn_b, sn_nil, sn8_i, sn8_b, sn8_nil, sn7_i, sn7_b, sn_sl, sn8_sl, slB_some, sn_tup, sn_agg, sn8_agg, mapO, elems, LT_call])
end

theorem repl_flat (k : Nat) : (repl [.i .i64 0, .i .i64 0] k).length = k * 2 := by simp [repl]

theorem chunk_repl : ∀ k : Nat, chunk 2 k (repl [.i .i64 0, .i .i64 0] k) = List.replicate k (.agg [.i .i64 0, .i .i64 0])
  | 0 => rfl
  | k + 1 => by
    have := chunk_repl k
    simp only [repl] at this
    simp [repl, chunk, List.replicate_succ, this]

theorem mapO_rep (x : TV) (f : TV → Option TV) (h : f x = some x) : ∀ k : Nat, mapO f (List.replicate k x) = some (List.replicate k x)
  | 0 => rfl
  | k + 1 => by simp [List.replicate_succ, mapO, h, mapO_rep x f h k]

theorem snap_rep (H : Heap) (id k : Nat) (cap : Option Nat) (h : H[id]? = some (.cells (repl [.i .i64 0, .i .i64 0] k) false)) : snap .borrow H 9 (.sl id 0 2 true k cap) = some (.bs true 2 (List.replicate k (.agg [.i .i64 0, .i .i64 0]))) := by
  rw [sn_sl _ (by decide), h, slB_some, if_pos ⟨by rw [repl_flat]; omega, .inl rfl⟩, List.drop_zero, ← repl_flat, List.take_length]
  simp only [elems, if_true, chunk_repl]
  rw [mapO_rep _ _ (by simp [sn8_agg, sn_i, sn_b, sn_nil, sn8_i, sn8_b, sn8_nil, sn7_i, sn7_b, sn_sl, sn8_sl, slB_some, sn_tup, sn_agg, sn8_agg, mapO, elems])]
  rfl

theorem c36e {pg : Pg} (hF : Free pg) {n : Int} {b : Bool} {l : List Line} {p q e : Int} (he : (e != 0) = true) (H : Heap) (k : Nat) (h : Opn pg n l [.i .i64 p, .i .i64 q] e) (m : Int) :
    callRun pg (den pg) (.pu []) [.fn 36 [] [], .i .i64 n, LT b l, .i .i64 p, .i .i64 q, .i .i64 m, .sl H.length 0 2 true k (some k)] (H ++ [.cells (repl [.i .i64 0, .i .i64 0] k) false]) = some (.b false, H ++ [.cells (repl [.i .i64 0, .i .i64 0] k) false]) :=
  Fn.call (e36b hF he m true (List.replicate k (.agg [.i .i64 0, .i .i64 0])) h) (args := [.i .i64 n, LT b l, .i .i64 p, .i .i64 q, .i .i64 m, .sl H.length 0 2 true k (some k)]) (by simp [snapArgs, sn_i, sn_b, sn_nil, sn8_i, sn8_b, sn8_nil, sn7_i, sn7_b, sn_sl, sn8_sl, slB_some, sn_tup, sn_agg, sn8_agg, mapO, elems, LT_call, snap_rep (H ++ [.cells (repl [.i .i64 0, .i .i64 0] k) false]) H.length k (some k) (by simp)])

end Go.Proofs.Try.Dn

/-
  PegChecks: the whole run answers true.
-/

namespace Go.Proofs.Try.Dn
open Go.Dn

set_option maxRecDepth 8000 in
theorem run16 (n : Int) (t : TV) (l : List Line) (p : Int) (ht : IsLines t l) : ∃ H, bodyRun pg2 (den pg2) 16 [.i .i64 n, t, .i .i64 p] [] = some (.b true, H) := by
  have h44 := fun H => call44 free2 ht H
  have hml : (l.take 41).length ≤ 41 := by simp; omega
  generalize l.take 41 = m at h44 hml
  by_cases hc : chk n m = 0
  · refine ⟨[], bodyRun_of (o := ⟨.ret, [(6, .b true)], []⟩) (vs := [.b true]) (d := d16) rfl rfl ?_ (by simp) rfl⟩
    rw [runC_go]
    simp [d16, c16, zipE, go_nil, go_last, go_past, go_pastR, go_blkN, go_blkR, go_blkE, go_skip, go_exit, go_ret, go_scope, go_seq, go_reg, go_block, go_cond, cnd_b, go_opsN, go_ops, go_opsG, grd_b, grd_u, stp_some, fin_some, up_some, cont_some, k_call, k_mv, k_pick, k_bin, k_eqB, k_eqA, k_not, k_neg, k_conv, k_alloc, k_boxA, k_boxI, k_boxB, k_boxN, k_boxBs, k_ldR, k_ldA, k_ldI, k_ldB, k_stA, k_stI, k_stB, ldC_some, stC_some, k_mkfn, k_slc, k_slcA, k_ixA, k_ixBs, k_ixSl, k_fadr, k_fld, k_ext, k_len, k_app, k_mn, k_mx, k_nilck, k_build, k_bsl1, k_bsl2, b_add, b_sub, b_mul, b_eql, b_neq, b_lss, b_leq, b_gtr, b_geq, Dn.setLast, Dn.getLast, evalO, mapO, Dn.get, putE, keepE, TV.one, TV.isAgg, Dn.part, h44, call46 free2, call47 free2, call22, hc]
  · have he : (chk n m != 0) = true := by simpa using hc
    have he2 : (chk n m == 0) = false := by simpa using hc
    have o0 : Opn0 pg2 n m (chk n m) := opn_bad free2 hc _
    have o1 : Opn pg2 n m [.i .i64 p] (chk n m) := opn_bad free2 hc _
    have o2 : Opn pg2 n m [.i .i64 p, .i .i64 p] (chk n m) := opn_bad free2 hc _
    have o3 : Opn pg2 n m [.i .i64 0, .i .i64 0] (chk n m) := opn_bad free2 hc _
    have h32 := fun H => c32e free2 (b := false) he H .nilsl .nilsl (sn_nil _ _) o2
    have ln : ∀ H, lenK 0 .nilsl H = some 0 := fun _ => rfl
    have w0 : wrapR .i64 0 = .i .i64 0 := rfl
    have hb : 16 * m.length ≤ 140737488355328 := by omega
    refine ⟨[.cells (repl [.i .i64 0, .i .i64 0] m.length) false], bodyRun_of (o := ⟨.ret, [(6, .b true)], [.cells (repl [.i .i64 0, .i .i64 0] m.length) false]⟩) (vs := [.b true]) (d := d16) rfl rfl ?_ (by simp) rfl⟩
    rw [runC_go]
    have hmk := k_mksl (pg := pg2) (R := den pg2) [.i .i64 0, .i .i64 0] true 16 .i64 .i64 m.length [] hb (by omega)
    simp at hmk
    have h36 := c36e free2 (b := false) he [] m.length o3 1
    simp at h36
    simp [d16, c16, zipE, go_nil, go_last, go_past, go_pastR, go_blkN, go_blkR, go_blkE, go_skip, go_exit, go_ret, go_scope, go_seq, go_reg, go_block, go_cond, cnd_b, go_opsN, go_ops, go_opsG, grd_b, grd_u, stp_some, fin_some, up_some, cont_some, k_call, k_mv, k_pick, k_bin, k_eqB, k_eqA, k_not, k_neg, k_conv, k_alloc, k_boxA, k_boxI, k_boxB, k_boxN, k_boxBs, k_ldR, k_ldA, k_ldI, k_ldB, k_stA, k_stI, k_stB, ldC_some, stC_some, k_mkfn, k_slc, k_slcA, k_ixA, k_ixBs, k_ixSl, k_fadr, k_fld, k_ext, k_len, k_app, k_mn, k_mx, k_nilck, k_build, k_bsl1, k_bsl2, b_add, b_sub, b_mul, b_eql, b_neq, b_lss, b_leq, b_gtr, b_geq, Dn.setLast, Dn.getLast, evalO, mapO, Dn.get, putE, keepE, TV.one, TV.isAgg, Dn.part, h44, call46 free2, call47 free2, call22, he, he2, c43e free2 he, c40e free2 he, c20e free2 he, c24e free2 he, c25e free2 he, c27e free2 he, c28e free2 he, c31e free2 he, h32, c41e free2 he, c42e free2 he, o0, o1, o2, o3, LT_len, ln, hmk, h36, w0]

end Go.Proofs.Try.Dn

