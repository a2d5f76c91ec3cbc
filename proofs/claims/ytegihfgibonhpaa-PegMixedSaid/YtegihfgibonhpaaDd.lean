/-
  Code run frame by frame: equations for proofs by rewriting.
-/
import Derived.Test.YtegihfgibonhpaaDc
import Derived.KernelRfl
import Derived.Test.YtegihfgibonhpaaDb
set_option linter.unusedSimpArgs false
set_option linter.unusedVariables false

namespace Go.Dn

inductive Fr where
  | c (x : DC)
  | ops (l : List DOper) (ks : List Nat)
  | blk (id : Nat)
  | opd (l all : List DOper) (ks : List Nat) (fr : List (Nat × Nat)) (hs : List Heap)

section
variable (pg : Pg) (R : Rec)

noncomputable def go : List Fr → Ex → Env → Heap → Option Out
  | [], x, e, H => some ⟨x, e, H⟩
  | .c c :: k, .normal, e, H => (runC pg R c e H).bind fun o => go k o.ex o.env o.H
  | .ops l ks :: k, .normal, e, H => (opsRun pg R l e H).bind fun p => go k .normal (keepE ks p.1) p.2
  | .opd l all ks fr hs :: k, .normal, e, H => (opsTr pg R l e H).bind fun p => if frOk pg all p.1 (hs ++ p.2.1) fr then go k .normal (keepE ks p.1) p.2.2 else none
  | .blk id :: k, x, e, H => go k (if x = .exit id then .normal else x) e H
  | _ :: k, x, e, H => go k x e H

noncomputable def cont : Option Out → List Fr → Option Out
  | some o, k => go pg R k o.ex o.env o.H
  | none, _ => none

noncomputable def fin : Option (TV × Heap) → Option Nat → List DOper → List Nat → List Fr → Env → Option Out
  | some (v, H), d, os, ks, k, e => go pg R (.ops os ks :: k) .normal (putE e d v) H
  | none, _, _, _, _, _ => none

noncomputable def dkc (op : DK) (vs : List TV) (H : Heap) : Option (TV × Heap) :=
  match op with
  | .call m => callRun pg R m vs H
  | op => dk op vs H

noncomputable def stp (op : DK) (d : Option Nat) : Option (List TV) → List DOper → List Nat → List Fr → Env → Heap → Option Out
  | some vs, os, ks, k, e, H => fin pg R (dkc pg R op vs H) d os ks k e
  | none, _, _, _, _, _ => none

noncomputable def grd : Option TV → Bool → DK → Option Nat → List Opnd → List DOper → List Nat → List Fr → Env → Heap → Option Out
  | some (.b x), w, op, d, a, os, ks, k, e, H => if x = w then stp pg R op d (mapO (evalO pg e) a) os ks k e H else go pg R (.ops os ks :: k) .normal (putE e d .undef) H
  | some .undef, _, _, d, _, os, ks, k, e, H => go pg R (.ops os ks :: k) .normal (putE e d .undef) H
  | _, _, _, _, _, _, _, _, _, _ => none

noncomputable def find : Option (TV × Heap) → Option Nat → List DOper → List DOper → List Nat → List (Nat × Nat) → List Heap → List Fr → Env → Option Out
  | some (v, H), d, os, all, ks, fr, hs, k, e => go pg R (.opd os all ks fr hs :: k) .normal (putE e d v) H
  | none, _, _, _, _, _, _, _, _ => none

noncomputable def stpd (op : DK) (d : Option Nat) : Option (List TV) → List DOper → List DOper → List Nat → List (Nat × Nat) → List Heap → List Fr → Env → Heap → Option Out
  | some vs, os, all, ks, fr, hs, k, e, H => find pg R (dkc pg R op vs H) d os all ks fr (hs ++ [H]) k e
  | none, _, _, _, _, _, _, _, _ => none

noncomputable def grdd : Option TV → Bool → DK → Option Nat → List Opnd → List DOper → List DOper → List Nat → List (Nat × Nat) → List Heap → List Fr → Env → Heap → Option Out
  | some (.b x), w, op, d, a, os, all, ks, fr, hs, k, e, H => if x = w then stpd pg R op d (mapO (evalO pg e) a) os all ks fr hs k e H else go pg R (.opd os all ks fr (hs ++ [H]) :: k) .normal (putE e d .undef) H
  | some .undef, _, _, d, _, os, all, ks, fr, hs, k, e, H => go pg R (.opd os all ks fr (hs ++ [H]) :: k) .normal (putE e d .undef) H
  | _, _, _, _, _, _, _, _, _, _, _, _, _ => none

noncomputable def cnd : Option TV → DC → DC → List Fr → Env → Heap → Option Out
  | some (.b t), x, y, k, e, H => if t then go pg R (.c x :: k) .normal e H else go pg R (.c y :: k) .normal e H
  | _, _, _, _, _, _ => none

variable {pg : Pg} {R : Rec}

theorem runC_go (c : DC) (e : Env) (H : Heap) : runC pg R c e H = go pg R [.c c] .normal e H := by
  simp only [go]
  cases runC pg R c e H <;> rfl

theorem gX0 (x : Ex) (e : Env) (H : Heap) : go pg R [] x e H = some ⟨x, e, H⟩ := rfl

theorem gX2 (c : DC) (k : List Fr) (id : Nat) (e : Env) (H : Heap) : go pg R (.c c :: k) (.exit id) e H = go pg R k (.exit id) e H := rfl
theorem gX3 (c : DC) (k : List Fr) (e : Env) (H : Heap) : go pg R (.c c :: k) .ret e H = go pg R k .ret e H := rfl
theorem gX4 (id : Nat) (k : List Fr) (e : Env) (H : Heap) : go pg R (.blk id :: k) .normal e H = go pg R k .normal e H := rfl
theorem gX5 (id : Nat) (k : List Fr) (e : Env) (H : Heap) : go pg R (.blk id :: k) .ret e H = go pg R k .ret e H := rfl
theorem gX6 (id : Nat) (k : List Fr) (j : Nat) (e : Env) (H : Heap) : go pg R (.blk id :: k) (.exit j) e H = if j = id then go pg R k .normal e H else go pg R k (.exit j) e H := by
  by_cases h : j = id <;> simp [go, h]

theorem gX7 (k : List Fr) (e : Env) (H : Heap) : go pg R (.c .skip :: k) .normal e H = go pg R k .normal e H := rfl
theorem gX8 (id : Nat) (k : List Fr) (e : Env) (H : Heap) : go pg R (.c (.exit id) :: k) .normal e H = go pg R k (.exit id) e H := rfl
theorem gX9 (k : List Fr) (e : Env) (H : Heap) : go pg R (.c .ret :: k) .normal e H = go pg R k .ret e H := rfl
theorem gXa (c : DC) (k : List Fr) (e : Env) (H : Heap) : go pg R (.c (.scope c) :: k) .normal e H = go pg R (.c c :: k) .normal e H := rfl

theorem gXb (x y : DC) (k : List Fr) (e : Env) (H : Heap) : go pg R (.c (.seq x y) :: k) .normal e H = go pg R (.c x :: .c y :: k) .normal e H := by
  simp only [go, runC]
  cases runC pg R x e H with
  | none => rfl
  | some o =>
    simp only [Option.bind_some]
    cases h : o.ex with
    | normal => simp [go]
    | exit id => simp [go, h]
    | ret => simp [go, h]

theorem gXc (l : List DOper) (ks : List Nat) (k : List Fr) (e : Env) (H : Heap) : go pg R (.c (.reg l ks) :: k) .normal e H = go pg R (.ops l ks :: k) .normal e H := by
  simp only [go, runC]
  cases opsRun pg R l e H <;> rfl

theorem gXl (id : Nat) (x : DC) (k : List Fr) (e : Env) (H : Heap) : go pg R (.c (.block id x) :: k) .normal e H = go pg R (.c x :: .blk id :: k) .normal e H := by
  simp only [go, runC]
  cases runC pg R x e H with
  | none => rfl
  | some o =>
    simp only [Option.map_some, Option.bind_some]
    by_cases h : o.ex = .exit id <;> simp [h]

theorem gXm (c : Opnd) (x y : DC) (k : List Fr) (e : Env) (H : Heap) : go pg R (.c (.cond c x y) :: k) .normal e H = cnd pg R (evalO pg e c) x y k e H := by
  simp only [go, runC, cnd]
  split
  · rename_i t h
    rw [h]
    cases t <;> rfl
  · rename_i h
    cases he : evalO pg e c with
    | none => rfl
    | some v =>
      cases v <;> first | rfl | exact absurd he (h _)

theorem gXn (t : Bool) (x y : DC) (k : List Fr) (e : Env) (H : Heap) : cnd pg R (some (.b t)) x y k e H = if t = true then go pg R (.c x :: k) .normal e H else go pg R (.c y :: k) .normal e H := rfl

theorem gXo (ks : List Nat) (k : List Fr) (e : Env) (H : Heap) : go pg R (.ops [] ks :: k) .normal e H = go pg R k .normal (keepE ks e) H := rfl

theorem operRun_eq (o : DOper) (e : Env) (H : Heap) (hg : guardRun e o.g = some true) : operRun pg R o e H = (mapO (evalO pg e) o.a).bind fun vs => (dkc pg R o.k vs H).map fun p => (putE e o.d p.1, p.2) := by
  simp only [operRun, hg, Option.bind_some, if_true]
  cases mapO (evalO pg e) o.a with
  | none => rfl
  | some vs => simp only [Option.bind_some, dkc]; cases o.k <;> rfl

theorem gXp (d : Option Nat) (op : DK) (a : List Opnd) (os : List DOper) (ks : List Nat) (k : List Fr) (e : Env) (H : Heap) :
    go pg R (.ops (⟨d, op, a, none⟩ :: os) ks :: k) .normal e H = stp pg R op d (mapO (evalO pg e) a) os ks k e H := by
  simp only [go, opsRun]
  rw [operRun_eq _ _ _ rfl]
  simp only [stp]
  cases mapO (evalO pg e) a with
  | none => rfl
  | some vs =>
    simp only [Option.bind_some]
    cases dkc pg R op vs H with
    | none => rfl
    | some p => rfl

theorem gXt (op : DK) (d : Option Nat) (vs : List TV) (os : List DOper) (ks : List Nat) (k : List Fr) (e : Env) (H : Heap) : stp pg R op d (some vs) os ks k e H = fin pg R (dkc pg R op vs H) d os ks k e := rfl

theorem gXu (v : TV) (H : Heap) (d : Option Nat) (os : List DOper) (ks : List Nat) (k : List Fr) (e : Env) : fin pg R (some (v, H)) d os ks k e = go pg R (.ops os ks :: k) .normal (putE e d v) H := rfl

theorem gXq (d : Option Nat) (op : DK) (a : List Opnd) (s : Nat) (w : Bool) (os : List DOper) (ks : List Nat) (k : List Fr) (e : Env) (H : Heap) :
    go pg R (.ops (⟨d, op, a, some (s, w)⟩ :: os) ks :: k) .normal e H = grd pg R (get e s) w op d a os ks k e H := by
  cases hs : get e s with
  | none => simp [go, opsRun, operRun, guardRun, hs, grd]
  | some v =>
    cases v <;> try (simp [go, opsRun, operRun, guardRun, hs, grd]; done)
    rename_i x
    by_cases hx : x = w
    · have := gXp (pg := pg) (R := R) d op a os ks k e H
      simp only [grd, hx, if_true]
      rw [← this]
      simp only [go, opsRun, operRun_eq ⟨d, op, a, some (s, w)⟩ e H (by simp [guardRun, hs, hx]), operRun_eq ⟨d, op, a, none⟩ e H rfl]
    · simp [go, opsRun, operRun, guardRun, hs, grd, hx]

theorem gXr (x w : Bool) (op : DK) (d : Option Nat) (a : List Opnd) (os : List DOper) (ks : List Nat) (k : List Fr) (e : Env) (H : Heap) : grd pg R (some (.b x)) w op d a os ks k e H = if x = w then stp pg R op d (mapO (evalO pg e) a) os ks k e H else go pg R (.ops os ks :: k) .normal (putE e d .undef) H := rfl

theorem gXs (w : Bool) (op : DK) (d : Option Nat) (a : List Opnd) (os : List DOper) (ks : List Nat) (k : List Fr) (e : Env) (H : Heap) : grd pg R (some .undef) w op d a os ks k e H = go pg R (.ops os ks :: k) .normal (putE e d .undef) H := rfl

theorem gXd (l : List DOper) (ks : List Nat) (fr : List (Nat × Nat)) (k : List Fr) (e : Env) (H : Heap) : go pg R (.c (.regd l ks fr) :: k) .normal e H = go pg R (.opd l l ks fr [] :: k) .normal e H := by
  simp only [go, runC, List.nil_append]
  cases opsTr pg R l e H with
  | none => rfl
  | some p =>
    simp only [Option.bind_some]
    split <;> rfl

theorem gXe (all : List DOper) (ks : List Nat) (fr : List (Nat × Nat)) (hs : List Heap) (k : List Fr) (e : Env) (H : Heap) : go pg R (.opd [] all ks fr hs :: k) .normal e H = if frOk pg all e (hs ++ [H]) fr = true then go pg R k .normal (keepE ks e) H else none := rfl

theorem gXf (d : Option Nat) (op : DK) (a : List Opnd) (os all : List DOper) (ks : List Nat) (fr : List (Nat × Nat)) (hs : List Heap) (k : List Fr) (e : Env) (H : Heap) :
    go pg R (.opd (⟨d, op, a, none⟩ :: os) all ks fr hs :: k) .normal e H = stpd pg R op d (mapO (evalO pg e) a) os all ks fr hs k e H := by
  simp only [go, opsTr]
  rw [operRun_eq _ _ _ rfl]
  simp only [stpd]
  cases mapO (evalO pg e) a with
  | none => rfl
  | some vs =>
    simp only [Option.bind_some]
    cases dkc pg R op vs H with
    | none => rfl
    | some p =>
      simp only [find, go, Option.map_some, Option.bind_some]
      cases opsTr pg R os (putE e d p.1) p.2 with
      | none => rfl
      | some q => simp [List.append_assoc]

theorem gXj (op : DK) (d : Option Nat) (vs : List TV) (os all : List DOper) (ks : List Nat) (fr : List (Nat × Nat)) (hs : List Heap) (k : List Fr) (e : Env) (H : Heap) : stpd pg R op d (some vs) os all ks fr hs k e H = find pg R (dkc pg R op vs H) d os all ks fr (hs ++ [H]) k e := rfl

theorem gXk (v : TV) (H : Heap) (d : Option Nat) (os all : List DOper) (ks : List Nat) (fr : List (Nat × Nat)) (hs : List Heap) (k : List Fr) (e : Env) : find pg R (some (v, H)) d os all ks fr hs k e = go pg R (.opd os all ks fr hs :: k) .normal (putE e d v) H := rfl

theorem gXg (d : Option Nat) (op : DK) (a : List Opnd) (s : Nat) (w : Bool) (os all : List DOper) (ks : List Nat) (fr : List (Nat × Nat)) (hs : List Heap) (k : List Fr) (e : Env) (H : Heap) :
    go pg R (.opd (⟨d, op, a, some (s, w)⟩ :: os) all ks fr hs :: k) .normal e H = grdd pg R (get e s) w op d a os all ks fr hs k e H := by
  have skip : ∀ b, guardRun e (some (s, w)) = some b → b = false → go pg R (.opd (⟨d, op, a, some (s, w)⟩ :: os) all ks fr hs :: k) .normal e H = go pg R (.opd os all ks fr (hs ++ [H]) :: k) .normal (putE e d .undef) H := by
    intro b hb h
    subst h
    simp only [go, opsTr, operRun, hb, Option.bind_some, Bool.false_eq_true, if_false]
    cases opsTr pg R os (putE e d .undef) H with
    | none => rfl
    | some q => simp [List.append_assoc]
  cases hs' : get e s with
  | none => simp [go, opsTr, operRun, guardRun, hs', grdd]
  | some v =>
    cases v <;> try (simp [go, opsTr, operRun, guardRun, hs', grdd]; done)
    · exact skip false (by simp [guardRun, hs']) rfl
    · rename_i x
      by_cases hx : x = w
      · have := gXf (pg := pg) (R := R) d op a os all ks fr hs k e H
        simp only [grdd, hx, if_true]
        rw [← this]
        simp only [go, opsTr, operRun_eq ⟨d, op, a, some (s, w)⟩ e H (by simp [guardRun, hs', hx]), operRun_eq ⟨d, op, a, none⟩ e H rfl]
      · rw [skip false (by simp [guardRun, hs', hx]) rfl]
        simp [grdd, hx]

theorem gXh (x w : Bool) (op : DK) (d : Option Nat) (a : List Opnd) (os all : List DOper) (ks : List Nat) (fr : List (Nat × Nat)) (hs : List Heap) (k : List Fr) (e : Env) (H : Heap) : grdd pg R (some (.b x)) w op d a os all ks fr hs k e H = if x = w then stpd pg R op d (mapO (evalO pg e) a) os all ks fr hs k e H else go pg R (.opd os all ks fr (hs ++ [H]) :: k) .normal (putE e d .undef) H := rfl

theorem gXi (w : Bool) (op : DK) (d : Option Nat) (a : List Opnd) (os all : List DOper) (ks : List Nat) (fr : List (Nat × Nat)) (hs : List Heap) (k : List Fr) (e : Env) (H : Heap) : grdd pg R (some .undef) w op d a os all ks fr hs k e H = go pg R (.opd os all ks fr (hs ++ [H]) :: k) .normal (putE e d .undef) H := rfl

theorem go_den (c : DC) (k : List Fr) (e : Env) (H : Heap) : go pg (den pg) (.c c :: k) .normal e H = cont pg (den pg) (den pg c e H) k := by
  rw [den_eq]
  simp only [go, cont]
  cases runC pg (den pg) c e H <;> rfl

theorem gXw (x : Ex) (e : Env) (H : Heap) (k : List Fr) : cont pg R (some ⟨x, e, H⟩) k = go pg R k x e H := rfl

theorem gX1 (ks : List Nat) (x : DC) (e : Env) (H : Heap) : go pg (den pg) [.c (.loop ks x)] .normal e H = den pg (.loop ks x) e H := by
  rw [← runC_go, ← den_eq]

theorem den_loop (ks : List Nat) (x : DC) (e : Env) (H : Heap) : den pg (.loop ks x) e H = cont pg (den pg) (go pg (den pg) [.c x] .normal (keepE ks e) H) [.c (.loop ks x)] := by
  rw [den_eq, ← runC_go]
  simp only [runC]
  cases runC pg (den pg) x (keepE ks e) H with
  | none => rfl
  | some o =>
    obtain ⟨x', e', H'⟩ := o
    simp only [Option.bind_some, cont]
    cases x' with
    | normal =>
      rw [go_den]
      simp only [if_true]
      cases den pg (.loop ks x) e' H' <;> rfl
    | exit id => rw [gX2, gX0]; simp
    | ret => rw [gX3, gX0]; simp

end

/-! operations -/
section
variable {pg : Pg} {R : Rec}
def up (o : Option TV) (H : Heap) : Option (TV × Heap) := o.map fun v => (v, H)
theorem gXv (v : TV) (H : Heap) : up (some v) H = some (v, H) := rfl

theorem gXx (m : CMode) (vs : List TV) (H : Heap) : dkc pg R (.call m) vs H = callRun pg R m vs H := rfl
theorem k_mv (x : TV) (H : Heap) : dkc pg R .mv [x] H = some (x, H) := rfl
theorem gXy (c : Bool) (a b : TV) (H : Heap) : dkc pg R .pick [.b c, a, b] H = some (if c = true then a else b, H) := rfl
theorem gXz (op : BinOp) (x y : TV) (H : Heap) : dkc pg R (.binI op) [x, y] H = up (binI op x y) H := rfl
theorem gX01 (neg x y : Bool) (H : Heap) : dkc pg R (.eqB neg) [.b x, .b y] H = some (.b (negb neg (x == y)), H) := rfl
theorem gX11 (neg : Bool) (ks : List Bool) (x y : List TV) (H : Heap) : dkc pg R (.eqA neg ks) [.agg x, .agg y] H = up ((eqL ks x y).map fun e => .b (negb neg e)) H := by
  simp only [dkc, dk, up]; cases eqL ks x y <;> rfl
theorem gX21 (x : Bool) (H : Heap) : dkc pg R .notB [.b x] H = some (.b (!x), H) := rfl
theorem gX31 (k : IntKind) (x : Int) (H : Heap) : dkc pg R (.negI k) [.i k x] H = some (wrapR k (0 - x), H) := by simp [dkc, dk]
theorem gX41 (k k' : IntKind) (n : Int) (H : Heap) : dkc pg R (.conv k) [.i k' n] H = some (wrapR k n, H) := rfl
theorem gX51 (z : List TV) (ag : Bool) (H : Heap) : dkc pg R (.alloc z ag) [] H = some (.ref H.length 0, H ++ [.cells z ag]) := rfl
theorem gX61 (l : List TV) (H : Heap) (h : l.all TV.one = true) : dkc pg R (.box true) [.agg l] H = some (.ref H.length 0, H ++ [.cells l true]) := by simp [dkc, dk, TV.cells, TV.isAgg, h]
theorem gX71 (k : IntKind) (n : Int) (H : Heap) : dkc pg R (.box false) [.i k n] H = some (.ref H.length 0, H ++ [.cells [.i k n] false]) := rfl
theorem gX81 (x : Bool) (H : Heap) : dkc pg R (.box false) [.b x] H = some (.ref H.length 0, H ++ [.cells [.b x] false]) := rfl
theorem gX91 (H : Heap) : dkc pg R (.box false) [.nilsl] H = some (.ref H.length 0, H ++ [.cells [.nilsl] false]) := rfl
theorem gXa1 (bo : Bool) (sz : Nat) (es : List TV) (H : Heap) : dkc pg R (.box false) [.bs bo sz es] H = some (.ref H.length 0, H ++ [.cells [.bs bo sz es] false]) := rfl
def ldC : Option AObj → Nat → Bool → Nat → Heap → Option (TV × Heap)
  | some (.cells c _), sz, ag, off, H => up (part sz ag off c) H
  | _, _, _, _, _ => none
def stC : Option AObj → Nat → Nat → Nat → List TV → Heap → Option (TV × Heap)
  | some (.cells c ag), sz, id, off, l, H => if l.length = sz ∧ l.all TV.one = true ∧ off + sz ≤ c.length then some (.undef, H.set id (.cells (put2 c off l) ag)) else none
  | _, _, _, _, _, _ => none
theorem gXb1 (sz : Nat) (ag : Bool) (id off : Nat) (H : Heap) : dkc pg R (.ld sz ag) [.ref id off] H = ldC H[id]? sz ag off H := by
  simp only [dkc, dk, ldC, up]
  cases H[id]? with
  | none => rfl
  | some o => cases o <;> rfl
theorem gXi1 (c : List TV) (ag' : Bool) (sz : Nat) (ag : Bool) (off : Nat) (H : Heap) : ldC (some (.cells c ag')) sz ag off H = up (part sz ag off c) H := rfl
theorem gXc1 (sz : Nat) (l : List TV) (bo : Bool) (H : Heap) (h : l.length = sz) : dkc pg R (.ld sz true) [.bp bo (.agg l)] H = some (.agg l, H) := by simp [dkc, dk, h]
theorem gXd1 (sz : Nat) (k : IntKind) (n : Int) (bo : Bool) (H : Heap) : dkc pg R (.ld sz false) [.bp bo (.i k n)] H = some (.i k n, H) := rfl
theorem gXe1 (sz : Nat) (x : Bool) (bo : Bool) (H : Heap) : dkc pg R (.ld sz false) [.bp bo (.b x)] H = some (.b x, H) := rfl
theorem gXf1 (sz : Nat) (id off : Nat) (l : List TV) (H : Heap) : dkc pg R (.st sz) [.ref id off, .agg l] H = stC H[id]? sz id off l H := by
  simp only [dkc, dk, stC, TV.cells]
  cases H[id]? with
  | none => rfl
  | some o => cases o <;> rfl
theorem gXj1 (c : List TV) (ag : Bool) (sz : Nat) (id off : Nat) (l : List TV) (H : Heap) : stC (some (.cells c ag)) sz id off l H = if l.length = sz ∧ l.all TV.one = true ∧ off + sz ≤ c.length then some (.undef, H.set id (.cells (put2 c off l) ag)) else none := rfl
theorem gXg1 (id off : Nat) (k : IntKind) (n : Int) (H : Heap) : dkc pg R (.st 1) [.ref id off, .i k n] H = stC H[id]? 1 id off [.i k n] H := by
  simp only [dkc, dk, stC, TV.cells]
  cases H[id]? with
  | none => rfl
  | some o => cases o <;> rfl
theorem gXh1 (id off : Nat) (x : Bool) (H : Heap) : dkc pg R (.st 1) [.ref id off, .b x] H = stC H[id]? 1 id off [.b x] H := by
  simp only [dkc, dk, stC, TV.cells]
  cases H[id]? with
  | none => rfl
  | some o => cases o <;> rfl
theorem gXk1 (f nf : Nat) (vs : List TV) (H : Heap) (h : nf ≤ vs.length) : dkc pg R (.mkfn f nf) vs H = some (.fn f (vs.take nf) (vs.drop nf), H) := by simp [dkc, dk, h]
theorem gXl1 (lo hi mx : Bool) (sz : Nat) (ag : Bool) (x : TV) (vs : List TV) (H : Heap) : dkc pg R (.slc lo hi mx sz ag) (x :: vs) H = up (slcRun lo hi mx sz ag x vs) H := rfl
theorem gXm1 (lo hi mx : Bool) (n sz : Nat) (ag : Bool) (x : TV) (vs : List TV) (H : Heap) : dkc pg R (.slcA lo hi mx n sz ag) (x :: vs) H = up (slcARun lo hi mx n sz ag x vs H) H := rfl
theorem gXn1 (n sz : Nat) (ag : Bool) (id off : Nat) (k : IntKind) (i : Int) (H : Heap) (h0 : 0 ≤ i) (h : i.toNat < n) : dkc pg R (.ixA n sz ag) [.ref id off, .i k i] H = some (.ref id (off + i.toNat * sz), H) := by simp [dkc, dk, bound, h0, h]
theorem gXo1 (sz : Nat) (ag : Bool) (bo : Bool) (es : List TV) (k : IntKind) (i : Int) (H : Heap) (h0 : 0 ≤ i) : dkc pg R (.ixS sz ag) [.bs bo sz es, .i k i] H = up ((es[i.toNat]?).map fun e => .bp bo e) H := by
  simp only [dkc, dk, bound, h0, if_true, Option.bind_some, up]; cases es[i.toNat]? <;> rfl
theorem gXp1 (sz : Nat) (ag ag' : Bool) (id off len : Nat) (cap : Option Nat) (k : IntKind) (i : Int) (H : Heap) (h0 : 0 ≤ i) (h : i.toNat < len) : dkc pg R (.ixS sz ag) [.sl id off sz ag' len cap, .i k i] H = some (.ref id (off + i.toNat * sz), H) := by simp [dkc, dk, bound, h0, h]
theorem gXq1 (id o off sz : Nat) (ag : Bool) (H : Heap) : dkc pg R (.fadr off sz ag) [.ref id o] H = some (.ref id (o + off), H) := rfl
theorem gXr1 (off sz : Nat) (ag : Bool) (l : List TV) (H : Heap) : dkc pg R (.fld off sz ag) [.agg l] H = up (part sz ag off l) H := rfl
theorem gXs1 (n : Nat) (l : List TV) (H : Heap) : dkc pg R (.ext n) [.tup l] H = up l[n]? H := rfl
theorem gXt1 (kd : Nat) (x : TV) (H : Heap) : dkc pg R (.len kd) [x] H = up ((lenK kd x H).map fun (n : Nat) => .i .i64 (n : Int)) H := by
  simp only [dkc, dk, up]; cases lenK kd x H <;> rfl
theorem gXu1 (sz : Nat) (ag : Bool) (bytes : Nat) (s x : TV) (H : Heap) : dkc pg R (.app sz ag bytes) [s, x] H = appRun sz ag bytes s x H := rfl
theorem k_mn (k : IntKind) (x y : Int) (H : Heap) : dkc pg R .mnI [.i k x, .i k y] H = some (.i k (if y < x then y else x), H) := by simp [dkc, dk, foldI]
theorem k_mx (k : IntKind) (x y : Int) (H : Heap) : dkc pg R .mxI [.i k x, .i k y] H = some (.i k (if y > x then y else x), H) := by simp [dkc, dk, foldI]
theorem gXv1 (id o : Nat) (H : Heap) : dkc pg R .nilck [.ref id o] H = some (.ref id o, H) := rfl
theorem gXw1 (z : List TV) (ps : List (Nat × Nat)) (vs : List TV) (H : Heap) : dkc pg R (.build z ps) vs H = up ((fillP z ps vs).map .agg) H := by
  simp only [dkc, dk, up]; cases fillP z ps vs <;> rfl

theorem gXx1 (k0 k : IntKind) (z a : Int) (H : Heap) : dkc pg R (.bsl false [.i k0 z] false 1 [0]) [.i k a] H = some (.sl H.length 0 1 false 1 (some 1), H ++ [.cells [.i k a] false]) := by
  simp [dkc, dk, fillP, repl, put2, TV.cells, TV.one]
theorem gXy1 (k0 k k' : IntKind) (z a b : Int) (H : Heap) : dkc pg R (.bsl false [.i k0 z] false 2 [0, 1]) [.i k a, .i k' b] H = some (.sl H.length 0 1 false 2 (some 2), H ++ [.cells [.i k a, .i k' b] false]) := by
  simp [dkc, dk, fillP, repl, put2, TV.cells, TV.one, List.replicate]

theorem gXz1 (k : IntKind) (x y : Int) : binI .add (.i k x) (.i k y) = some (wrapR k (x + y)) := by simp [binI]
theorem gX02 (k : IntKind) (x y : Int) : binI .sub (.i k x) (.i k y) = some (wrapR k (x - y)) := by simp [binI]
theorem gX12 (k : IntKind) (x y : Int) : binI .mul (.i k x) (.i k y) = some (wrapR k (x * y)) := by simp [binI]
theorem gX22 (k : IntKind) (x y : Int) : binI .eql (.i k x) (.i k y) = some (.b (x == y)) := by simp [binI]
theorem gX32 (k : IntKind) (x y : Int) : binI .neq (.i k x) (.i k y) = some (.b (x != y)) := by simp [binI]
theorem gX42 (k : IntKind) (x y : Int) : binI .lss (.i k x) (.i k y) = some (.b (decide (x < y))) := by simp [binI]
theorem gX52 (k : IntKind) (x y : Int) : binI .leq (.i k x) (.i k y) = some (.b (decide (x ≤ y))) := by simp [binI]
theorem gX62 (k : IntKind) (x y : Int) : binI .gtr (.i k x) (.i k y) = some (.b (decide (y < x))) := by simp [binI]
theorem gX72 (k : IntKind) (x y : Int) : binI .geq (.i k x) (.i k y) = some (.b (decide (y ≤ x))) := by simp [binI]
end

/-! snapshots -/
theorem sn_i (m : SM) (H : Heap) (k : IntKind) (n : Int) : snap m H 9 (.i k n) = some (.i k n) := by simp [snap]
theorem sn_b (m : SM) (H : Heap) (x : Bool) : snap m H 9 (.b x) = some (.b x) := by simp [snap]
theorem gX92 (m : SM) (H : Heap) : snap m H 9 .nilsl = some .nilsl := by simp [snap]
theorem gXa2 (m : SM) (H : Heap) (k : IntKind) (n : Int) : snap m H 8 (.i k n) = some (.i k n) := by simp [snap]
theorem gXb2 (m : SM) (H : Heap) (x : Bool) : snap m H 8 (.b x) = some (.b x) := by simp [snap]
theorem gXc2 (m : SM) (H : Heap) : snap m H 8 .nilsl = some .nilsl := by simp [snap]
theorem gXd2 (m : SM) (H : Heap) (k : IntKind) (n : Int) : snap m H 7 (.i k n) = some (.i k n) := by simp [snap]
theorem gXe2 (m : SM) (H : Heap) (x : Bool) : snap m H 7 (.b x) = some (.b x) := by simp [snap]
def slB : Option AObj → SM → Heap → Nat → Nat → Nat → Bool → Nat → Option TV
  | some (.cells c _), m, H, f, off, sz, ag, len => if off + len * sz ≤ c.length ∧ (ag = true ∨ sz = 1) then (mapO (snap m H f) (elems sz ag len ((c.drop off).take (len * sz)))).map fun es => .bs (m == .borrow) sz es else none
  | _, _, _, _, _, _, _, _ => none
theorem gXf2 (m : SM) (hm : m ≠ .keep) (H : Heap) (id off sz : Nat) (ag : Bool) (len : Nat) (cap : Option Nat) : snap m H 9 (.sl id off sz ag len cap) = slB H[id]? m H 8 off sz ag len := by
  rw [snap]
  simp only [if_neg hm, slB]
  cases H[id]? with
  | none => rfl
  | some o => cases o <;> rfl
theorem gXg2 (m : SM) (hm : m ≠ .keep) (H : Heap) (id off sz : Nat) (ag : Bool) (len : Nat) (cap : Option Nat) : snap m H 8 (.sl id off sz ag len cap) = slB H[id]? m H 7 off sz ag len := by
  rw [snap]
  simp only [if_neg hm, slB]
  cases H[id]? with
  | none => rfl
  | some o => cases o <;> rfl
theorem gXh2 (c : List TV) (ag' : Bool) (m : SM) (H : Heap) (f off sz : Nat) (ag : Bool) (len : Nat) : slB (some (.cells c ag')) m H f off sz ag len = if off + len * sz ≤ c.length ∧ (ag = true ∨ sz = 1) then (mapO (snap m H f) (elems sz ag len ((c.drop off).take (len * sz)))).map fun es => .bs (m == .borrow) sz es else none := rfl
theorem gXi2 (m : SM) (H : Heap) (l : List TV) : snap m H 9 (.tup l) = (mapO (snap m H 8) l).map .tup := by rw [snap]
theorem gXj2 (m : SM) (H : Heap) (l : List TV) : snap m H 9 (.agg l) = (mapO (snap m H 8) l).map .agg := by rw [snap]
theorem gXk2 (m : SM) (H : Heap) (l : List TV) : snap m H 8 (.agg l) = (mapO (snap m H 7) l).map .agg := by rw [snap]

theorem setLast (H : Heap) (x y : AObj) : (H ++ [x]).set H.length y = H ++ [y] := by simp
theorem getLast (H : Heap) (x : AObj) : (H ++ [x])[H.length]? = some x := by simp

end Go.Dn

/-
  Slices in a call's own heap, by what they hold.
-/

namespace Go.Dn

structure El (α : Type) where
  sz : Nat
  ag : Bool
  enc : α → List TV
  pos : 0 < sz
  len : ∀ a, (enc a).length = sz
  one : ∀ a, (enc a).all TV.one = true
  sc : ag = true ∨ sz = 1

namespace El
variable {α : Type} (E : El α)

def val (a : α) : TV := if E.ag then .agg (E.enc a) else (E.enc a).headD .undef
def flat (l : List α) : List TV := l.flatMap E.enc

theorem flat_cons (x : α) (l : List α) : E.flat (x :: l) = E.enc x ++ E.flat l := rfl
theorem flat_append (l m : List α) : E.flat (l ++ m) = E.flat l ++ E.flat m := by simp [flat]
theorem flat_len (l : List α) : (E.flat l).length = l.length * E.sz := by
  induction l with
  | nil => simp [flat]
  | cons x l ih => rw [flat_cons, List.length_append, ih, E.len, List.length_cons, Nat.add_mul]; omega
theorem flat_all (l : List α) : (E.flat l).all TV.one = true := by
  induction l with
  | nil => rfl
  | cons x l ih => rw [flat_cons, List.all_append, ih, E.one]; rfl
theorem flat_take (l : List α) (k : Nat) : (E.flat l).take (k * E.sz) = E.flat (l.take k) := by
  induction l generalizing k with
  | nil => simp [flat]
  | cons x l ih =>
    cases k with
    | zero => simp [flat]
    | succ k =>
      rw [flat_cons, List.take_succ_cons, flat_cons, ← ih k, show (k + 1) * E.sz = (E.enc x).length + k * E.sz by rw [E.len, Nat.add_mul]; omega, List.take_length_add_append]
theorem flat_drop (l : List α) (k : Nat) : (E.flat l).drop (k * E.sz) = E.flat (l.drop k) := by
  induction l generalizing k with
  | nil => simp [flat]
  | cons x l ih =>
    cases k with
    | zero => simp
    | succ k =>
      rw [flat_cons, List.drop_succ_cons, ← ih k, show (k + 1) * E.sz = (E.enc x).length + k * E.sz by rw [E.len, Nat.add_mul]; omega, List.drop_length_add_append]
theorem val_of_not (h : E.ag = false) (a : α) : E.enc a = [E.val a] := by
  have h1 : E.sz = 1 := by rcases E.sc with h2 | h2; rw [h] at h2; cases h2; exact h2
  have h2 := E.len a
  rw [h1] at h2
  match he : E.enc a, h2 with
  | [v], _ => simp [val, h, he]

theorem val_cells (a : α) : (E.val a).cells = E.enc a := by
  cases h : E.ag with
  | true => simp [val, h, TV.cells]
  | false =>
    have h1 := E.val_of_not h a
    have h2 := E.one a
    rw [h1] at h2 ⊢
    simp at h2
    cases hv : E.val a <;> simp_all [TV.cells, TV.one]

theorem flat_cells (l : List α) : (l.map E.val).flatMap TV.cells = E.flat l := by
  induction l with
  | nil => rfl
  | cons x l ih => rw [List.map_cons, List.flatMap_cons, ih, flat_cons, val_cells]

theorem elems_flat (l : List α) : elems E.sz E.ag l.length (E.flat l) = l.map E.val := by
  unfold elems
  cases h : E.ag with
  | true =>
    simp only [if_true]
    induction l with
    | nil => rfl
    | cons x l ih =>
      rw [List.length_cons, chunk, flat_cons, List.map_cons]
      have h1 : (E.enc x).length = E.sz := E.len x
      rw [show (E.enc x ++ E.flat l).take E.sz = E.enc x by rw [← h1, List.take_left'] <;> rfl, show (E.enc x ++ E.flat l).drop E.sz = E.flat l by rw [← h1, List.drop_left'] <;> rfl, ih]
      simp [val, h]
  | false =>
    simp only [Bool.false_eq_true, if_false]
    induction l with
    | nil => rfl
    | cons x l ih => rw [flat_cons, List.map_cons, ih, E.val_of_not h]; rfl

def View (H : Heap) (t : TV) (l : List α) : Prop :=
  (t = .nilsl ∧ l = []) ∨ (∃ b, t = .bs b E.sz (l.map E.val)) ∨
  (∃ id off cap c ag, t = .sl id off E.sz E.ag l.length cap ∧ l.length ≤ cap.getD l.length ∧ H[id]? = some (.cells c ag) ∧ off + l.length * E.sz ≤ c.length ∧ (c.drop off).take (l.length * E.sz) = E.flat l)

def Own (H : Heap) (t : TV) (l : List α) : Prop :=
  (t = .nilsl ∧ l = []) ∨ (l ≠ [] ∧ ∃ id ag c, t = .sl id 0 E.sz E.ag l.length none ∧ H[id]? = some (.cells c ag) ∧ l.length * E.sz ≤ c.length ∧ c.take (l.length * E.sz) = E.flat l)

end El

def TV.idOf : TV → Option Nat
  | .sl id .. => some id
  | _ => none

namespace El
variable {α : Type} {E : El α}

theorem Own.view {H : Heap} {t : TV} {l : List α} (h : E.Own H t l) : E.View H t l := by
  rcases h with h | ⟨_, id, ag, c, h1, h2, h3, h4⟩
  · exact .inl h
  · refine .inr (.inr ⟨id, 0, none, c, ag, h1, Nat.le_refl _, h2, by omega, ?_⟩)
    rw [List.drop_zero, h4]

theorem View.mono {H H' : Heap} {t : TV} {l : List α} (h : E.View H t l) (hf : ∀ id, t.idOf = some id → H'[id]? = H[id]?) : E.View H' t l := by
  rcases h with h | h | ⟨id, off, cap, c, ag, rfl, h0, h1, h2, h3⟩
  · exact .inl h
  · exact .inr (.inl h)
  · exact .inr (.inr ⟨id, off, cap, c, ag, rfl, h0, by rw [hf id rfl]; exact h1, h2, h3⟩)

theorem Own.mono {H H' : Heap} {t : TV} {l : List α} (h : E.Own H t l) (hf : ∀ id, t.idOf = some id → H'[id]? = H[id]?) : E.Own H' t l := by
  rcases h with h | ⟨h0, id, ag, c, rfl, h1, h2⟩
  · exact .inl h
  · exact .inr ⟨h0, id, ag, c, rfl, by rw [hf id rfl]; exact h1, h2⟩

theorem Own.lt {H : Heap} {t : TV} {l : List α} (h : E.Own H t l) : ∀ id, t.idOf = some id → id < H.length := by
  rcases h with ⟨rfl, _⟩ | ⟨_, id, ag, c, rfl, h1, _⟩
  · intro id h; cases h
  · intro i h
    cases h
    exact (List.getElem?_eq_some_iff.1 h1).1

theorem View.lt {H : Heap} {t : TV} {l : List α} (h : E.View H t l) : ∀ id, t.idOf = some id → id < H.length := by
  rcases h with ⟨rfl, _⟩ | ⟨b, rfl⟩ | ⟨id, off, cap, c, ag, rfl, _, h1, _⟩
  · intro id h; cases h
  · intro id h; cases h
  · intro i h
    cases h
    exact (List.getElem?_eq_some_iff.1 h1).1

theorem View.lenK {H : Heap} {t : TV} {l : List α} (h : E.View H t l) (H' : Heap) : lenK 0 t H' = some l.length := by
  rcases h with ⟨rfl, rfl⟩ | ⟨b, rfl⟩ | ⟨id, off, cap, c, ag, rfl, _⟩
  · rfl
  · simp [Dn.lenK]
  · rfl

theorem View.lenOf {H : Heap} {t : TV} {l : List α} (h : E.View H t l) (H' : Heap) : lenOf t H' = some l.length := by
  rcases h with ⟨rfl, rfl⟩ | ⟨b, rfl⟩ | ⟨id, off, cap, c, ag, rfl, _⟩
  · rfl
  · simp [Dn.lenOf]
  · rfl

theorem View.flatOf {H : Heap} {t : TV} {l : List α} (h : E.View H t l) : flatOf E.sz t H = some (E.flat l) := by
  rcases h with ⟨rfl, rfl⟩ | ⟨b, rfl⟩ | ⟨id, off, cap, c, ag, rfl, _, h1, h2, h3⟩
  · rfl
  · simp only [Dn.flatOf, if_true, E.flat_cells]
  · simp only [Dn.flatOf, h1, h2, and_self, if_true, h3]

theorem app {H : Heap} {t x : TV} {l k : List α} {bytes : Nat} (h : E.Own H t l) (hx : E.View H x k) (hb : (l.length + k.length) * bytes ≤ 140737488355328) :
    ∃ t' H', appRun E.sz E.ag bytes t x H = some (t', H') ∧ E.Own H' t' (l ++ k) ∧ H.length ≤ H'.length ∧ (∀ j, j < H.length → t.idOf ≠ some j → H'[j]? = H[j]?) ∧ (t' = t ∨ ∀ id, t'.idOf = some id → H.length ≤ id) := by
  unfold appRun
  rw [hx.lenOf, Option.bind_some, hx.flatOf, Option.bind_some, h.view.lenOf, Option.bind_some, if_pos ⟨hb, E.flat_all k, E.flat_len k⟩]
  by_cases hk : k.length = 0
  · have : k = [] := List.eq_nil_of_length_eq_zero hk
    subst this
    rcases h with ⟨rfl, rfl⟩ | ⟨h0, id, ag, c, rfl, h1, h2⟩
    · exact ⟨_, _, rfl, .inl ⟨rfl, rfl⟩, Nat.le_refl _, fun _ _ _ => rfl, .inl rfl⟩
    · exact ⟨_, _, rfl, by rw [List.append_nil]; exact .inr ⟨h0, id, ag, c, rfl, h1, h2⟩, Nat.le_refl _, fun _ _ _ => rfl, .inl rfl⟩
  · have hk' : k ≠ [] := by rintro rfl; simp at hk
    rcases h with ⟨rfl, rfl⟩ | ⟨h0, id, ag, c, rfl, h1, h2, h3⟩
    · simp only [if_neg hk, List.length_nil, Nat.zero_add]
      refine ⟨_, _, rfl, .inr ⟨by simpa using hk', H.length, false, E.flat k, by simp, by simp, by rw [E.flat_len]; simp, by rw [List.nil_append, ← E.flat_len, List.take_length]⟩, by simp, ?_, .inr fun id h => ?_⟩
      · intro j hj _
        rw [List.getElem?_append_left hj]
      · cases h; exact Nat.le_refl _
    · have hid := (List.getElem?_eq_some_iff.1 h1).1
      simp only [if_neg hk, if_true, h1]
      rw [if_pos (by omega), List.drop_zero, h3]
      refine ⟨_, _, rfl, .inr ⟨by simp [h0], H.length, false, E.flat (l ++ k), by simp, ?_, by rw [E.flat_len]; omega, by rw [← E.flat_len, List.take_length]⟩, by simp, ?_, .inr fun id h => ?_⟩
      · rw [List.getElem?_append_right (by simp)]
        simp only [List.length_set, Nat.sub_self, List.getElem?_cons_zero, E.flat_append]
      · intro j hj hne
        rw [List.getElem?_append_left (by simpa using hj), List.getElem?_set_ne]
        intro he
        exact hne (by rw [← he]; rfl)
      · cases h; exact Nat.le_refl _

theorem View.slc {H : Heap} {t : TV} {l : List α} (h : E.View H t l) {lo hi : Nat} (h1 : lo ≤ hi) (h2 : hi ≤ l.length) {bl bh : Bool} {vs : List TV}
    (hv : bounds3 bl bh false l.length vs = some (lo, hi, none)) : ∃ v, slcRun bl bh false E.sz E.ag t vs = some v ∧ E.View H v ((l.take hi).drop lo) ∧ (v = t ∨ v.idOf = t.idOf) := by
  rcases h with ⟨rfl, rfl⟩ | ⟨b, rfl⟩ | ⟨id, off, cap, c, ag, rfl, h0, h3, h4, h5⟩
  · simp only [List.length_nil] at hv h2
    have h0 : hi = 0 := by omega
    subst h0
    exact ⟨.nilsl, by simp [slcRun, hv], .inl ⟨rfl, by simp⟩, .inl rfl⟩
  · refine ⟨.bs b E.sz (((l.map E.val).drop lo).take (hi - lo)), ?_, .inr (.inl ⟨b, ?_⟩), .inr rfl⟩
    · simp only [slcRun, List.length_map, hv, Option.bind_some, true_and, Option.getD_none, Nat.le_refl, h2, and_self, if_true]
      rfl
    · rw [List.map_drop, List.map_take, List.drop_take]
  · have hl : ((l.take hi).drop lo).length = hi - lo := by simp [h2]
    refine ⟨.sl id (off + lo * E.sz) E.sz E.ag (hi - lo) (cap.map (· - lo)), ?_, .inr (.inr ⟨id, off + lo * E.sz, cap.map (· - lo), c, ag, by rw [hl], ?_, h3, ?_, ?_⟩), .inr rfl⟩
    · have : hi ≤ cap.getD l.length := by omega
      simp only [slcRun, hv, Option.bind_some, true_and, Option.getD_none, Nat.le_refl, this, and_self, if_true]
      rfl
    · rw [hl]
      cases cap with
      | none => simp
      | some k => simp only [Option.map_some, Option.getD_some] at h0 ⊢; omega
    · rw [hl]
      have : (lo + (hi - lo)) * E.sz ≤ l.length * E.sz := Nat.mul_le_mul_right _ (by omega)
      rw [Nat.add_mul] at this
      omega
    · rw [hl, ← List.drop_drop, ← E.flat_drop, ← E.flat_take, ← h5, List.take_take, Nat.min_eq_left (Nat.mul_le_mul_right _ h2), List.drop_take, Nat.sub_mul]

def At (E : El α) (H : Heap) (p : TV) (x : α) : Prop :=
  (∃ b, p = .bp b (E.val x)) ∨ (∃ id o c ag, p = .ref id o ∧ H[id]? = some (.cells c ag) ∧ o + E.sz ≤ c.length ∧ (c.drop o).take E.sz = E.enc x)

section
variable {pg : Pg} {R : Rec}

theorem View.ix {H : Heap} {t : TV} {l : List α} (h : E.View H t l) {i : Nat} {x : α} (hx : l[i]? = some x) (k : IntKind) : ∃ p, dkc pg R (.ixS E.sz E.ag) [t, .i k (i : Int)] H = some (p, H) ∧ E.At H p x ∧ (∀ id o, p = .ref id o → t.idOf = some id) := by
  have hi := (List.getElem?_eq_some_iff.1 hx).1
  rcases h with ⟨rfl, rfl⟩ | ⟨b, rfl⟩ | ⟨id, off, cap, c, ag, rfl, h0, h3, h4, h5⟩
  · simp at hx
  · refine ⟨.bp b (E.val x), ?_, .inl ⟨b, rfl⟩, fun id o h => by cases h⟩
    rw [gXo1 _ _ _ _ _ _ _ (by omega)]
    simp [hx, up]
  · refine ⟨.ref id (off + i * E.sz), ?_, .inr ⟨id, off + i * E.sz, c, ag, rfl, h3, ?_, ?_⟩, fun id' o h => by cases h; rfl⟩
    · rw [gXp1 _ _ _ _ _ _ _ _ _ _ (by omega) (by simpa using hi)]
      simp
    · have : (i + 1) * E.sz ≤ l.length * E.sz := Nat.mul_le_mul_right _ (by omega)
      rw [Nat.add_mul] at this
      omega
    · have h6 : ((c.drop off).take (l.length * E.sz)).drop (i * E.sz) = E.flat (l.drop i) := by rw [h5, E.flat_drop]
      rw [List.drop_take, List.drop_drop] at h6
      have h7 : l.drop i = x :: l.drop (i + 1) := by rw [List.drop_eq_getElem_cons hi]; congr 1; have := List.getElem?_eq_some_iff.1 hx; exact this.2
      rw [h7, E.flat_cons] at h6
      have h8 := congrArg (List.take E.sz) h6
      rw [List.take_take, Nat.min_eq_left (by
        rw [← Nat.sub_mul]
        have : 1 * E.sz ≤ (l.length - i) * E.sz := Nat.mul_le_mul_right _ (by omega)
        omega)] at h8
      rw [h8, ← E.len x, List.take_left']
      rfl

theorem At.ld {H : Heap} {p : TV} {x : α} (h : E.At H p x) : dkc pg R (.ld E.sz E.ag) [p] H = some (E.val x, H) := by
  rcases h with ⟨b, rfl⟩ | ⟨id, o, c, ag, rfl, h1, h2, h3⟩
  · cases hag : E.ag with
    | true => simp only [val, hag, if_true]; exact gXc1 _ _ _ _ (E.len x)
    | false =>
      have := E.one x
      rw [E.val_of_not hag] at this
      simp at this
      cases hv : E.val x <;> simp_all [dkc, dk, TV.one]
  · rw [gXb1, h1, gXi1]
    unfold Dn.part
    cases hag : E.ag with
    | true => simp only [if_true, if_pos h2, h3, gXv, val, hag]
    | false =>
      have h1 : E.sz = 1 := by rcases E.sc with h2 | h2; rw [hag] at h2; cases h2; exact h2
      rw [h1, E.val_of_not hag] at h3
      have h4 : c[o]? = some (E.val x) := by
        have := congrArg (·[0]?) h3
        simpa using this
      have h5 : (E.val x).isAgg = false := by
        have := E.one x
        rw [E.val_of_not hag] at this
        simp at this
        cases hv : E.val x <;> simp_all [TV.one, TV.isAgg]
      simp [h4, h5, up]

theorem At.cell {H : Heap} {p : TV} {x : α} (h : E.At H p x) (hag : E.ag = true) {j : Nat} {v : TV} (hv : (E.enc x)[j]? = some v) (k : IntKind) : ∃ q, dkc pg R (.ixA E.sz 1 false) [p, .i k (j : Int)] H = some (q, H) ∧ dkc pg R (.ld 1 false) [q] H = some (v, H) := by
  have hj := (List.getElem?_eq_some_iff.1 hv).1
  rw [E.len] at hj
  have hone : v.one = true := List.all_eq_true.1 (E.one x) v (List.mem_of_getElem? hv)
  have hisag : v.isAgg = false := by cases hv' : v <;> simp_all [TV.one, TV.isAgg]
  rcases h with ⟨b, rfl⟩ | ⟨id, o, c, ag, rfl, h1, h2, h3⟩
  · refine ⟨.bp b v, ?_, ?_⟩
    · simp [dkc, dk, bound, hj, val, hag, Dn.part, hv, hisag]
    · cases v <;> simp_all [dkc, dk, TV.one]
  · refine ⟨.ref id (o + j), ?_, ?_⟩
    · simp [dkc, dk, bound, hj]
    · have h4 : c[o + j]? = some v := by
        have := congrArg (·[j]?) h3
        simp only [List.getElem?_take, if_pos hj, List.getElem?_drop] at this
        rw [this, hv]
      rw [gXb1, h1, gXi1]
      simp [Dn.part, h4, hisag, up]
end

def lt (E : El α) (b : Bool) : List α → TV
  | [] => .nilsl
  | x :: l => .bs b E.sz ((x :: l).map E.val)

theorem lt_ne {b : Bool} {l : List α} (h : l ≠ []) : E.lt b l = .bs b E.sz (l.map E.val) := by cases l <;> simp_all [lt]

theorem lt_view (b : Bool) (l : List α) (H : Heap) : E.View H (E.lt b l) l := by
  cases l with
  | nil => exact .inl ⟨rfl, rfl⟩
  | cons x l => exact .inr (.inl ⟨b, rfl⟩)

def Flat (E : El α) : Prop := ∀ m H a f, Dn.snap m H (f + 2) (E.val a) = some (E.val a)

theorem Flat.mapO (hs : E.Flat) (m : SM) (H : Heap) (f : Nat) : ∀ l : List α, mapO (Dn.snap m H (f + 2)) (l.map E.val) = some (l.map E.val)
  | [] => rfl
  | x :: l => by simp only [List.map_cons, Dn.mapO, hs m H x f, Flat.mapO hs m H f l, Option.bind_some, Option.map_some]

theorem View.snap {H : Heap} {t : TV} {l : List α} (h : E.View H t l) (hs : E.Flat) (hn : t ≠ .nilsl) : Dn.snap .borrow H 9 t = some (.bs true E.sz (l.map E.val)) := by
  rcases h with ⟨rfl, rfl⟩ | ⟨b, rfl⟩ | ⟨id, off, cap, c, ag, rfl, h0, h3, h4, h5⟩
  · exact absurd rfl hn
  · rw [show Dn.snap .borrow H 9 (.bs b E.sz (l.map E.val)) = (Dn.mapO (Dn.snap .borrow H 8) (l.map E.val)).map fun es' => .bs true E.sz es' by rw [Dn.snap]; rfl, hs.mapO .borrow H 6]
    rfl
  · rw [gXf2 _ (by decide), h3, gXh2, if_pos ⟨h4, E.sc⟩, h5, E.elems_flat, hs.mapO .borrow H 6]
    rfl

theorem Own.snap {H : Heap} {t : TV} {l : List α} (h : E.Own H t l) (hs : E.Flat) : Dn.snap .borrow H 9 t = some (E.lt true l) := by
  rcases h with ⟨rfl, rfl⟩ | ⟨h0, id, ag, c, rfl, h1⟩
  · exact gX92 _ _
  · rw [(Own.view (.inr ⟨h0, id, ag, c, rfl, h1⟩) : E.View H _ l).snap hs (by simp), lt_ne h0]

theorem Own.fin {H : Heap} {t : TV} {l : List α} (h : E.Own H t l) (hs : E.Flat) : Dn.snap .fin H 9 t = some (E.lt false l) := by
  rcases h with ⟨rfl, rfl⟩ | ⟨h0, id, ag, c, rfl, h1, h2, h3⟩
  · exact gX92 _ _
  · rw [gXf2 _ (by decide), h1, gXh2, if_pos ⟨by omega, E.sc⟩, List.drop_zero, h3, E.elems_flat, hs.mapO .fin H 6, lt_ne h0]
    rfl

theorem Own.fin8 {H : Heap} {t : TV} {l : List α} (h : E.Own H t l) (hs : E.Flat) : Dn.snap .fin H 8 t = some (E.lt false l) := by
  rcases h with ⟨rfl, rfl⟩ | ⟨h0, id, ag, c, rfl, h1, h2, h3⟩
  · exact gXc2 _ _
  · rw [gXg2 _ (by decide), h1, gXh2, if_pos ⟨by omega, E.sc⟩, List.drop_zero, h3, E.elems_flat, hs.mapO .fin H 5, lt_ne h0]
    rfl

end El

def elI : El Int where
  sz := 1
  ag := false
  enc n := [.i .i64 n]
  pos := by decide
  len _ := rfl
  one _ := rfl
  sc := .inr rfl

theorem elI_flat : elI.Flat := by
  intro m H a f
  show snap m H (f + 2) (.i .i64 a) = some (.i .i64 a)
  simp [snap]

theorem ownSet {pg : Pg} {R : Rec} {H : Heap} {t : TV} {l : List Int} (h : elI.Own H t l) {i : Nat} (hi : i < l.length) (v : Int) :
    ∃ p H', dkc pg R (.ixS 1 false) [t, .i .i64 (i : Int)] H = some (p, H) ∧ dkc pg R (.st 1) [p, .i .i64 v] H = some (.undef, H') ∧ elI.Own H' t (l.set i v) ∧ H'.length = H.length ∧ (∀ j, t.idOf ≠ some j → H'[j]? = H[j]?) := by
  rcases h with ⟨rfl, rfl⟩ | ⟨h0, id, ag, c, rfl, h1, h2, h3⟩
  · simp at hi
  · have hid := (List.getElem?_eq_some_iff.1 h1).1
    have hsz : elI.sz = 1 := rfl
    rw [hsz] at h2 h3
    simp only [Nat.mul_one] at h2 h3
    have hfl : ∀ l : List Int, elI.flat l = l.map (fun n => .i .i64 n) := by
      intro l
      induction l with
      | nil => rfl
      | cons x l ih => rw [El.flat_cons, ih]; rfl
    refine ⟨.ref id i, H.set id (.cells (put2 c i [.i .i64 v]) ag), ?_, ?_, ?_, by simp, ?_⟩
    · exact (gXp1 1 false false id 0 l.length none .i64 i H (by omega) (by simpa using hi)).trans (by simp)
    · rw [gXg1, h1, gXj1, if_pos ⟨rfl, rfl, by omega⟩]
    · refine .inr ⟨by simpa using h0, id, ag, put2 c i [.i .i64 v], by rw [List.length_set], by simp [hid], ?_, ?_⟩
      · simp [put2, hsz]; omega
      · rw [List.length_set, hsz, Nat.mul_one, hfl]
        have hput : put2 c i [TV.i .i64 v] = c.set i (.i .i64 v) := by
          simp only [put2, List.length_singleton]
          rw [List.set_eq_take_append_cons_drop, if_pos (by omega)]
          simp
        rw [hput, List.take_set, h3, hfl, List.map_set]
    · intro j hj
      rw [List.getElem?_set_ne]
      intro he
      exact hj (by rw [← he]; rfl)

end Go.Dn

/-
  Ranges over functions: one round, as the yield function makes it.
-/

namespace Go.Dn

def Body (pg : Pg) (id : Nat) (L : ALoop) (args : List TV) (H : Heap) (x : Ex) (H' : Heap) : Prop :=
  ∃ e1 H2 e2 H3, den pg L.assign ((L.params.zip args).reverse ++ L.env) H = some ⟨.normal, e1, H2⟩ ∧ H2[id]? = some (.loop L) ∧
    den pg L.body e1 (H2.set id (.loop { L with st := .busy })) = some ⟨x, e2, H3⟩ ∧ H3[id]? = some (.loop { L with st := .busy }) ∧ H' = H3.set id (.loop L)

theorem yield_of {pg : Pg} {id : Nat} {L : ALoop} {args : List TV} {H H' : Heap} {x : Ex} (hr : L.st = .ready) (hp : L.pend = none) (hl : L.params.length = args.length) (hL : H[id]? = some (.loop L)) (hb : Body pg id L args H x H') :
    yieldRun (den pg) id args H = some (if x = .normal then (.b true, H') else (.b false, H'.set id (.loop { L with st := .done, pend := some x }))) := by
  obtain ⟨e1, H2, e2, H3, h1, h2, h3, h4, rfl⟩ := hb
  simp only [yieldRun, hL, hl, if_true, h1, Option.bind_some, h2, hr, h3, h4]
  cases x with
  | normal =>
    have : ({ L with st := .ready, pend := none } : ALoop) = L := by cases L; simp_all
    simp [this]
  | exit i => simp
  | ret => simp

theorem Body.there {pg : Pg} {id : Nat} {L : ALoop} {args : List TV} {H H' : Heap} {x : Ex} (hb : Body pg id L args H x H') : H'[id]? = some (.loop L) := by
  obtain ⟨e1, H2, e2, H3, h1, h2, h3, h4, rfl⟩ := hb
  have := (List.getElem?_eq_some_iff.1 h4).1
  simp [this]

theorem sh_yl {pg : Pg} {R : Rec} (id : Nat) (args : List TV) (H : Heap) : callRun pg R .sh (.yl id :: args) H = yieldRun R id args H := rfl

theorem go_rfunc {pg : Pg} {f : Opnd} {ps : List Nat} {as_ bd : DC} {ks : List Nat} {K : List Fr} {e : Env} {H H2 : Heap} {fv r : TV} {L : ALoop} (hf : evalO pg e f = some fv)
    (hc : callRun pg (den pg) .sh [fv, .yl H.length] (H ++ [.loop { env := keepE ks e, params := ps, assign := as_, body := bd, st := .ready, pend := none }]) = some (r, H2)) (hl : H2[H.length]? = some (.loop L)) (hs : L.st ≠ .busy) :
    go pg (den pg) (.c (.rfunc f ps as_ bd ks) :: K) .normal e H = go pg (den pg) K (L.pend.getD .normal) (keepE ks e) (H2.set H.length (.loop { L with st := .exhausted })) := by
  simp only [go, runC, hf, Option.bind_some, hc, hl, if_neg hs]

theorem keepE_keepE (ks : List Nat) (e : Env) : keepE ks (keepE ks e) = keepE ks e := by
  have : ∀ l : List Nat, (∀ s ∈ l, s ∈ ks) → l.filterMap (fun s => (get (keepE ks e) s).map fun v => (s, v)) = l.filterMap (fun s => (get e s).map fun v => (s, v)) := by
    intro l
    induction l with
    | nil => intro _; rfl
    | cons s l ih =>
      intro h
      have hs : get (keepE ks e) s = get e s := get_keepE_mem (h s (by simp))
      simp only [List.filterMap_cons, hs]
      rw [ih fun x hx => h x (by simp [hx])]
  exact this ks fun _ h => h

theorem go_denK {pg : Pg} {c : DC} {ks : List Nat} {x : DC} (hc : c = .loop ks x) (k : List Fr) (e : Env) (H : Heap) : go pg (den pg) (.c c :: k) .normal e H = cont pg (den pg) (den pg c (keepE ks e) H) k := by
  subst hc
  rw [go_den, den_loop ks x e, den_loop ks x (keepE ks e), keepE_keepE]

end Go.Dn

/-
  Arrays behind slices of a fixed length: made whole, their elements and cells put into place.
-/

namespace Go.Dn
namespace El
variable {α : Type} {E : El α}

section
variable {pg : Pg} {R : Rec}

end

end El
end Go.Dn

/-
  Slices within slices: what they hold, by value.
-/

namespace Go.Dn

theorem snS_nil (m : SM) (H : Heap) (f : Nat) : snap m H (f + 1) .nilsl = some .nilsl := by simp [snap]
theorem snS_sl (m : SM) (hm : m ≠ .keep) (H : Heap) (f : Nat) (id off sz : Nat) (ag : Bool) (len : Nat) (cap : Option Nat) : snap m H (f + 1) (.sl id off sz ag len cap) = slB H[id]? m H f off sz ag len := by
  rw [snap]
  simp only [if_neg hm, slB]
  cases H[id]? with
  | none => rfl
  | some o => cases o <;> rfl

theorem mapO_len {α β : Type} {g : α → Option β} : ∀ {l : List α} {r : List β}, mapO g l = some r → r.length = l.length
  | [], r, h => by simp [mapO] at h; simp [h]
  | x :: l, r, h => by
    simp only [mapO] at h
    cases h1 : g x with
    | none => simp [h1] at h
    | some y =>
      cases h2 : mapO g l with
      | none => simp [h1, h2] at h
      | some ys =>
        simp [h1, h2] at h
        subst h
        simp [mapO_len h2]

namespace El
variable {α β : Type} {E : El α} {E' : El β}

theorem Own.to {m : SM} (hm : m ≠ .keep) {t : TV} {l : List α} {l' : List β} {H : Heap} {f : Nat} (h : E.Own H t l) (hz : E'.sz = E.sz) (hv : mapO (Dn.snap m H f) (l.map E.val) = some (l'.map E'.val)) : Dn.snap m H (f + 1) t = some (E'.lt (m == .borrow) l') := by
  have hn := mapO_len hv
  simp only [List.length_map] at hn
  rcases h with ⟨rfl, rfl⟩ | ⟨h0, id, ag, c, rfl, h1, h2, h3⟩
  · match l', hn with
    | [], _ => exact snS_nil _ _ _
  · have h0' : l' ≠ [] := by rintro rfl; simp at hn; exact h0 (List.eq_nil_of_length_eq_zero hn.symm)
    rw [snS_sl _ hm, h1, gXh2, if_pos ⟨by omega, E.sc⟩, List.drop_zero, h3, E.elems_flat, hv, lt_ne h0', hz]
    rfl

end El

end Go.Dn

/-
  Pairs of slices of whole numbers as they come as arguments.
-/

namespace Go.Dn

end Go.Dn

/-
  Pure calls known by what they answer; queues; small facts for all programs.
-/

namespace Go.Dn

theorem body_of {pg : Pg} {f : Nat} {xs : List TV} {d : DFun} {x : Ex} {e : Env} {H H' : Heap} {r : TV} (hd : pg.F f = some d) (hl : xs.length = d.np)
    (ho : go pg (den pg) [.c d.body] .normal (zipE xs 0) H = some ⟨x, e, H'⟩) (hx : x = .ret ∨ x = .normal) (hv : mapO (resRun e H') d.res = some [r]) : bodyRun pg (den pg) f xs H = some (r, H') := by
  refine bodyRun_of (vs := [r]) (o := ⟨x, e, H'⟩) hd hl (by rw [runC_go]; exact ho) ?_ hv
  intro id
  rcases hx with rfl | rfl <;> simp

theorem sh_fn {pg : Pg} {R : Rec} (f : Nat) (fs cs args : List TV) (H : Heap) : callRun pg R .sh (.fn f fs cs :: args) H = bodyRun pg R f (fs ++ args ++ cs) H := rfl

theorem b_rem (k : IntKind) (x y : Int) : binI .rem (.i k x) (.i k y) = if y = 0 then none else some (.i k (x.tmod y)) := by simp [binI]

theorem ixI {pg : Pg} {R : Rec} {H : Heap} {t : TV} {l : List Int} (h : elI.View H t l) {i : Nat} {x : Int} (hx : l[i]? = some x) : ∃ p, dkc pg R (.ixS 1 false) [t, .i .i64 (i : Int)] H = some (p, H) ∧ dkc pg R (.ld 1 false) [p] H = some (.i .i64 x, H) := by
  obtain ⟨p, h1, h2, _⟩ := h.ix (pg := pg) (R := R) hx .i64
  exact ⟨p, h1, h2.ld⟩

def firstIdx (P : Int → Bool) : List Int → Nat → Int
  | [], _ => -1
  | x :: l, i => if P x then (i : Int) else firstIdx P l (i + 1)

theorem firstIdx_any (P : Int → Bool) : ∀ (l : List Int) (i : Nat), decide (0 ≤ firstIdx P l i) = l.any P
  | [], i => rfl
  | x :: l, i => by
    simp only [firstIdx, List.any_cons]
    by_cases h : P x = true
    · simp [h]
    · simp [h, firstIdx_any P l]

theorem ld_box {pg : Pg} {R : Rec} {H : Heap} {id : Nat} {t : TV} (h : H[id]? = some (.cells [t] false)) (ht : t.isAgg = false) : dkc pg R (.ld 1 false) [.ref id 0] H = some (t, H) := by
  rw [gXb1, h, gXi1, part_one rfl ht]; rfl

theorem st_box {pg : Pg} {R : Rec} {H : Heap} {id : Nat} {u v : TV} {ag : Bool} (h : H[id]? = some (.cells [u] ag)) (hv : v.one = true) : dkc pg R (.st 1) [.ref id 0, v] H = some (.undef, H.set id (.cells [v] ag)) := by
  have hc : v.cells = [v] := by cases v <;> simp_all [TV.cells, TV.one]
  simp [dkc, dk, h, hc, hv, put2]

def Que (H : Heap) (t : TV) (l : List Int) : Prop :=
  ∃ id off cap c ag, t = .sl id off 1 false l.length cap ∧ H[id]? = some (.cells c ag) ∧ off + l.length ≤ c.length ∧ (c.drop off).take l.length = l.map (fun n => .i .i64 n) ∧ (∀ k, cap = some k → l.length ≤ k ∧ off + k ≤ c.length)

theorem elI_flat_map (l : List Int) : elI.flat l = l.map (fun n => .i .i64 n) := by
  induction l with
  | nil => rfl
  | cons x l ih => rw [El.flat_cons, ih]; rfl

theorem Que.view {H : Heap} {t : TV} {l : List Int} (h : Que H t l) : elI.View H t l := by
  obtain ⟨id, off, cap, c, ag, rfl, h1, h2, h3, h4⟩ := h
  refine .inr (.inr ⟨id, off, cap, c, ag, rfl, ?_, h1, ?_, ?_⟩)
  · cases cap with
    | none => exact Nat.le_refl _
    | some k => exact (h4 k rfl).1
  · show off + l.length * 1 ≤ c.length; omega
  · rw [elI_flat_map, ← h3]; show List.take (l.length * 1) _ = _; rw [Nat.mul_one]

theorem Que.mono {H H' : Heap} {t : TV} {l : List Int} (h : Que H t l) (hf : ∀ id, t.idOf = some id → H'[id]? = H[id]?) : Que H' t l := by
  obtain ⟨id, off, cap, c, ag, rfl, h1, h2⟩ := h
  exact ⟨id, off, cap, c, ag, rfl, by rw [hf id rfl]; exact h1, h2⟩

theorem Que.lt {H : Heap} {t : TV} {l : List Int} (h : Que H t l) : ∀ id, t.idOf = some id → id < H.length := by
  obtain ⟨id, off, cap, c, ag, rfl, h1, h2⟩ := h
  intro i hi
  cases hi
  exact (List.getElem?_eq_some_iff.1 h1).1

theorem Que.one {H : Heap} {t : TV} {l : List Int} (h : Que H t l) : t.one = true ∧ t.isAgg = false := by
  obtain ⟨id, off, cap, c, ag, rfl, h1, h2⟩ := h
  exact ⟨rfl, rfl⟩

theorem Que.tail {H : Heap} {t : TV} {x : Int} {l : List Int} (h : Que H t (x :: l)) : ∃ t', slcRun true false false 1 false t [.i .i64 1] = some t' ∧ Que H t' l ∧ t'.idOf = t.idOf := by
  obtain ⟨id, off, cap, c, ag, rfl, h1, h2, h3, h4⟩ := h
  have hb : bounds3 true false false (l.length + 1) [.i .i64 1] = some (1, l.length + 1, none) := by simp [bounds3, bound]
  have hcap : l.length + 1 ≤ cap.getD (l.length + 1) := by
    cases cap with
    | none => exact Nat.le_refl _
    | some k => have := (h4 k rfl).1; simpa using this
  refine ⟨.sl id (off + 1) 1 false l.length (cap.map (· - 1)), ?_, ⟨id, off + 1, cap.map (· - 1), c, ag, rfl, h1, ?_, ?_, ?_⟩, rfl⟩
  · simp only [slcRun, hb, Option.bind_some, List.length_cons, true_and, Option.getD_none, Nat.le_refl, hcap, and_self, if_true]
    rfl
  · simp only [List.length_cons] at h2; omega
  · have h5 := congrArg (List.drop 1) h3
    simp only [List.length_cons, List.map_cons, List.drop_succ_cons, List.drop_zero] at h5
    rw [← h5, List.drop_take, List.drop_drop]
    rfl
  · intro k hk
    cases cap with
    | none => cases hk
    | some m =>
      have := h4 m rfl
      simp only [List.length_cons] at this
      simp at hk
      omega

theorem Que.app {H : Heap} {t : TV} {l : List Int} {x : Int} (h : Que H t l) (hl : l.length ≤ 1000000) :
    ∃ t' H', appRun 1 false 8 t (.sl H.length 0 1 false 1 (some 1)) (H ++ [.cells [.i .i64 x] false]) = some (t', H') ∧ Que H' t' (l ++ [x]) ∧ H.length ≤ H'.length ∧ (∀ j, j < H.length → t.idOf ≠ some j → H'[j]? = H[j]?) ∧ (t'.idOf = t.idOf ∨ ∀ id, t'.idOf = some id → H.length ≤ id) := by
  obtain ⟨id, off, cap, c, ag, rfl, h1, h2, h3, h4⟩ := h
  have hid := (List.getElem?_eq_some_iff.1 h1).1
  have h1' : (H ++ [AObj.cells [TV.i .i64 x] false])[id]? = some (.cells c ag) := by rw [List.getElem?_append_left hid]; exact h1
  have hgl := getLast H (.cells [.i .i64 x] false)
  have hb : (l.length + 1) * 8 ≤ 140737488355328 := by omega
  have e0 : ¬ (1 = 0) := by decide
  have hone : [TV.i IntKind.i64 x].all TV.one = true := rfl
  have hlen : (l ++ [x]).length = l.length + 1 := by simp
  have fresh : ∀ H2 : Heap, (∀ j, j < H.length → j ≠ id → H2[j]? = H[j]?) → H2.length = H.length + 1 → 
      Que (H2 ++ [.cells ((c.drop off).take (l.length * 1) ++ [.i .i64 x]) false]) (.sl (H ++ [AObj.cells [TV.i .i64 x] false]).length 0 1 false (l.length + 1) none) (l ++ [x]) ∧ H.length ≤ (H2 ++ [AObj.cells ((c.drop off).take (l.length * 1) ++ [.i .i64 x]) false]).length ∧
        (∀ j, j < H.length → (TV.sl id off 1 false l.length cap).idOf ≠ some j → (H2 ++ [AObj.cells ((c.drop off).take (l.length * 1) ++ [.i .i64 x]) false])[j]? = H[j]?) := by
    intro H2 hf hl2
    refine ⟨⟨_, 0, none, (c.drop off).take (l.length * 1) ++ [.i .i64 x], false, by rw [hlen], ?_, ?_, ?_, fun k hk => by cases hk⟩, by simp; omega, ?_⟩
    · rw [List.getElem?_append_right (by simp; omega)]
      simp [hl2]
    · rw [Nat.mul_one, h3]; simp
    · rw [Nat.mul_one, h3, hlen, List.drop_zero, List.take_of_length_le (by simp)]
      simp
    · intro j hj hne
      rw [List.getElem?_append_left (by omega)]
      exact hf j hj (fun he => hne (by rw [he]; rfl))
  cases cap with
  | none =>
    obtain ⟨q1, q2, q3⟩ := fresh ((H ++ [AObj.cells [TV.i .i64 x] false]).set id .dead) (fun j hj hne => by rw [List.getElem?_set_ne (by omega), List.getElem?_append_left hj]) (by simp)
    refine ⟨_, _, ?_, q1, q2, q3, .inr fun i hi => by cases hi; simp⟩
    simp only [appRun, lenOf, flatOf, Option.bind_some, hgl, List.length_singleton, Nat.zero_add, Nat.mul_one, Nat.le_refl, and_self, if_true, List.drop_zero, List.take_succ_cons, List.take_nil, List.take_zero, hone, hb, e0, if_false, h1', h2]
  | some k =>
    obtain ⟨k1, k2⟩ := h4 k rfl
    by_cases hk : l.length + 1 ≤ k
    · have hroom : off + (l.length + 1) * 1 ≤ c.length := by omega
      refine ⟨.sl id off 1 false (l.length + 1) (some k), (H ++ [AObj.cells [TV.i .i64 x] false]).set id (AObj.cells (put2 c (off + l.length * 1) [.i .i64 x]) ag), by
        simp only [appRun, lenOf, flatOf, Option.bind_some, hgl, List.length_singleton, Nat.zero_add, Nat.mul_one, Nat.le_refl, and_self, if_true, List.drop_zero, List.take_succ_cons, List.take_nil, List.take_zero, hone, hb, e0, if_false, h1', h2, hk]
        rw [if_pos (by omega)], ⟨id, off, some k, put2 c (off + l.length * 1) [.i .i64 x], ag, by rw [hlen], ?_, ?_, ?_, ?_⟩, by simp, ?_, .inl rfl⟩
      · rw [List.getElem?_set_self (by simp; omega)]
      · simp [put2]; omega
      · have hput : put2 c (off + l.length * 1) [TV.i .i64 x] = c.set (off + l.length) (.i .i64 x) := by
          simp only [put2, List.length_singleton, Nat.mul_one]
          rw [List.set_eq_take_append_cons_drop, if_pos (by omega)]
          simp
        rw [hput, hlen]
        apply List.ext_getElem?
        intro i
        have h3i := congrArg (·[i]?) h3
        simp only [List.getElem?_take, List.getElem?_drop] at h3i
        simp only [List.getElem?_take, List.getElem?_drop, List.map_append, List.map_cons, List.map_nil]
        by_cases hi : i < l.length
        · rw [if_pos (by omega), List.getElem?_set_ne (by omega), List.getElem?_append_left (by simpa using hi), ← h3i, if_pos hi]
        · by_cases hi2 : i = l.length
          · subst hi2
            rw [if_pos (by omega), List.getElem?_set_self (by omega), List.getElem?_append_right (by simp)]
            simp
          · rw [if_neg (by omega), List.getElem?_eq_none (by simp; omega)]
      · intro m hm
        cases hm
        simp [put2]; omega
      · intro j hj hne
        rw [List.getElem?_set_ne (fun he => hne (by rw [← he]; rfl)), List.getElem?_append_left hj]
    · obtain ⟨q1, q2, q3⟩ := fresh (H ++ [AObj.cells [TV.i .i64 x] false]) (fun j hj hne => by rw [List.getElem?_append_left hj]) (by simp)
      refine ⟨_, _, ?_, q1, q2, q3, .inr fun i hi => by cases hi; simp⟩
      simp only [appRun, lenOf, flatOf, Option.bind_some, hgl, List.length_singleton, Nat.zero_add, Nat.mul_one, Nat.le_refl, and_self, if_true, List.drop_zero, List.take_succ_cons, List.take_nil, List.take_zero, hone, hb, e0, if_false, h1', h2, hk]

theorem appI {H : Heap} {t x : TV} {l k : List Int} (h : elI.Own H t l) (hx : elI.View H x k) (hb : l.length + k.length ≤ 1000000) :
    ∃ t' H', appRun 1 false 8 t x H = some (t', H') ∧ elI.Own H' t' (l ++ k) ∧ H.length ≤ H'.length ∧ (∀ j, j < H.length → t.idOf ≠ some j → H'[j]? = H[j]?) ∧ (t' = t ∨ ∀ id, t'.idOf = some id → H.length ≤ id) := El.app (E := elI) (bytes := 8) h hx (by omega)

theorem one_view (H : Heap) (v : Int) : elI.View (H ++ [.cells [.i .i64 v] false]) (.sl H.length 0 1 false 1 (some 1)) [v] :=
  .inr (.inr ⟨H.length, 0, some 1, _, false, rfl, by simp, getLast _ _, by simp [elI], by simp [elI, El.flat]⟩)


end Go.Dn

/-
  Rows built one by one, and tables of them.
-/

namespace Go.Dn

section
variable {α : Type} {E : El α}

end

end Go.Dn

/-
  Tables of rows whose elements are put into place.
-/

namespace Go.Dn

section
variable {α : Type} {E : El α}

end

end Go.Dn

/-
  Rules for runs, by rewriting without side proofs of their own (for simp with a discharger).
-/

namespace Go.Dn

def kp : Option TV → Nat → Env → Env
  | some v, k, e => (k, v) :: e
  | none, _, e => e
end Go.Dn

/-
  Rules for runs: maps by rising keys, loops over them.
-/

namespace Go.Dn

section
variable {pg : Pg} {R : Rec}

/-! ### clear, cap -/
end

/-! ### one after another, in any order -/
end Go.Dn

/-
  Words of 64 bits: sets of small numbers.
-/

namespace Go.Dn

theorem wrap_u {m : Nat} (h : m < 18446744073709551616) : wrapR .u64 (m : Int) = .i .u64 (m : Int) := by
  unfold wrapR; simp [IntKind.wrap, IntKind.signed, IntKind.bits]; omega

theorem ofInt_u (m : Nat) : BitVec.ofInt 64 (m : Int) = BitVec.ofNat 64 m := by simp

theorem and_uu {m k : Nat} (hm : m < 18446744073709551616) (hk : k < 18446744073709551616) : binI .and (.i .u64 (m : Int)) (.i .u64 (k : Int)) = some (.i .u64 ((m &&& k : Nat) : Int)) := by
  have h1 : (m &&& k) ≤ m := Nat.and_le_left
  have : ((BitVec.ofInt 64 (m : Int)) &&& (BitVec.ofInt 64 (k : Int))).toNat = m &&& k := by
    rw [ofInt_u, ofInt_u, BitVec.toNat_and]
    simp only [BitVec.toNat_ofNat]
    rw [Nat.mod_eq_of_lt (by omega : m < 2 ^ 64), Nat.mod_eq_of_lt (by omega : k < 2 ^ 64)]
  rw [show binI .and (.i .u64 (m : Int)) (.i .u64 (k : Int)) = some (wrapR .u64 ((BitVec.ofInt 64 (m : Int)) &&& (BitVec.ofInt 64 (k : Int))).toNat) from rfl, this, wrap_u (by omega)]

theorem and_ii {m k : Nat} (hm : m < 9223372036854775808) (hk : k < 9223372036854775808) : binI .and (.i .i64 (m : Int)) (.i .i64 (k : Int)) = some (.i .i64 ((m &&& k : Nat) : Int)) := by
  have h1 : (m &&& k) ≤ m := Nat.and_le_left
  have : ((BitVec.ofInt 64 (m : Int)) &&& (BitVec.ofInt 64 (k : Int))).toNat = m &&& k := by
    rw [ofInt_u, ofInt_u, BitVec.toNat_and]
    simp only [BitVec.toNat_ofNat]
    rw [Nat.mod_eq_of_lt (by omega : m < 2 ^ 64), Nat.mod_eq_of_lt (by omega : k < 2 ^ 64)]
  rw [show binI .and (.i .i64 (m : Int)) (.i .i64 (k : Int)) = some (wrapR .i64 ((BitVec.ofInt 64 (m : Int)) &&& (BitVec.ofInt 64 (k : Int))).toNat) from rfl, this, gX82 (by omega)]

theorem shr_k {q k : IntKind} (hq : q.bits = 64) {m c : Nat} (hc : c ≤ 64) : binI .shr (.i q (m : Int)) (.i k (c : Int)) = some (.i q ((m / 2 ^ c : Nat) : Int)) := by
  have h0 : ¬ ((c : Int) < 0) := by omega
  have h1 : min c 64 = c := by omega
  have h3 : (m : Int).fdiv (2 ^ c) = ((m / 2 ^ c : Nat) : Int) := by
    rw [Int.fdiv_eq_ediv_of_nonneg _ (by have : (0 : Int) < 2 ^ c := Int.pow_pos (by decide); omega)]
    simp
  simp only [binI, if_neg h0, Int.toNat_natCast, hq, h1, h3]

theorem shr_u {k : IntKind} {m c : Nat} (hc : c ≤ 64) : binI .shr (.i .u64 (m : Int)) (.i k (c : Int)) = some (.i .u64 ((m / 2 ^ c : Nat) : Int)) := shr_k rfl hc
/-! how many -/
def pop : Nat → Nat → Nat
  | 0, _ => 0
  | k + 1, x => x % 2 + pop k (x / 2)

theorem pop_add : ∀ (n k x : Nat), pop (n + k) x = pop n x + pop k (x / 2 ^ n)
  | 0, k, x => by simp [pop]
  | n + 1, k, x => by
    rw [Nat.add_right_comm, pop, pop, pop_add n k (x / 2), Nat.div_div_eq_div_mul, Nat.pow_succ, Nat.mul_comm 2]
    omega

theorem pop_mod : ∀ (n x : Nat), pop n (x % 2 ^ n) = pop n x
  | 0, x => rfl
  | n + 1, x => by
    rw [pop, pop]
    have h1 : x % 2 ^ (n + 1) % 2 = x % 2 := by
      rw [Nat.pow_succ, Nat.mul_comm, Nat.mod_mul_right_mod]
    have h2 : x % 2 ^ (n + 1) / 2 = x / 2 % 2 ^ n := by
      rw [Nat.pow_succ, Nat.mul_comm, Nat.mod_mul_right_div_self]
    rw [h1, h2, pop_mod n]

theorem pop_le : ∀ (n x : Nat), pop n x ≤ n
  | 0, _ => Nat.le_refl _
  | n + 1, x => by have := pop_le n (x / 2); rw [pop]; omega

theorem pop_count (x : Nat) : ∀ (n : Nat), pop n x = (List.range n).countP fun i => x.testBit i
  | 0 => rfl
  | n + 1 => by
    rw [pop_add n 1 x, pop_count x n, List.range_succ, List.countP_append]
    congr 1
    simp only [pop, Nat.add_zero, List.countP_cons, List.countP_nil, Nat.zero_add]
    rw [Nat.testBit_eq_decide_div_mod_eq]
    by_cases h : x / 2 ^ n % 2 = 1
    · simp [h]
    · have : x / 2 ^ n % 2 = 0 := by omega
      simp [this]

def m1 : Nat → Nat | 0 => 0 | k + 1 => 85 + 256 * m1 k
def m2 : Nat → Nat | 0 => 0 | k + 1 => 51 + 256 * m2 k
def m4 : Nat → Nat | 0 => 0 | k + 1 => 15 + 256 * m4 k

def nibs (k x : Nat) : Nat :=
  let y1 := (x / 2 &&& m1 k) + (x &&& m1 k)
  (y1 / 4 &&& m2 k) + (y1 &&& m2 k)

def lanes (k x : Nat) : Nat := (nibs k x / 16 + nibs k x) &&& m4 k

theorem and_split (a b c d : Nat) (ha : a < 256) (hc : c < 256) : (a + 256 * b) &&& (c + 256 * d) = (a &&& c) + 256 * (b &&& d) := by
  have h1 := Nat.and_mod_two_pow (a := a + 256 * b) (b := c + 256 * d) (n := 8)
  have h2 := Nat.and_div_two_pow (a := a + 256 * b) (b := c + 256 * d) (n := 8)
  rw [show (a + 256 * b) % 2 ^ 8 = a by omega, show (c + 256 * d) % 2 ^ 8 = c by omega] at h1
  rw [show (a + 256 * b) / 2 ^ 8 = b by omega, show (c + 256 * d) / 2 ^ 8 = d by omega] at h2
  have := Nat.mod_add_div ((a + 256 * b) &&& (c + 256 * d)) (2 ^ 8)
  omega

def nib1 (a : Nat) : Nat := (((a / 2 &&& 85) + (a &&& 85)) / 4 &&& 51) + (((a / 2 &&& 85) + (a &&& 85)) &&& 51)

theorem lane_a : ((List.range 256).all fun a => (a / 2 + 128 &&& 85) == (a / 2 &&& 85) && decide ((a / 2 &&& 85) + (a &&& 85) < 256) && decide (nib1 a < 69) && (nib1 a / 16 + nib1 a &&& 15) == pop 8 a && decide (nib1 a % 16 ≤ 4)) = true := by kernel_rfl
theorem lane_b : ((List.range 256).all fun a => (List.range 4).all fun t => (a / 4 + 64 * t &&& 51) == (a / 4 &&& 51)) = true := by kernel_rfl
theorem lane_c : ((List.range 69).all fun y => (List.range 5).all fun t => (y / 16 + 16 * t + y &&& 15) == (y / 16 + y &&& 15)) = true := by kernel_rfl

theorem lane_facts {a : Nat} (ha : a < 256) : (a / 2 + 128 &&& 85) = (a / 2 &&& 85) ∧ (a / 2 &&& 85) + (a &&& 85) < 256 ∧ nib1 a < 69 ∧ (nib1 a / 16 + nib1 a &&& 15) = pop 8 a ∧ nib1 a % 16 ≤ 4 := by
  have hA := List.all_eq_true.1 lane_a a (List.mem_range.2 ha)
  simp only [Bool.and_eq_true, beq_iff_eq, decide_eq_true_eq] at hA
  obtain ⟨⟨⟨⟨h1, h2⟩, h3⟩, h4⟩, h5⟩ := hA
  exact ⟨h1, h2, h3, h4, h5⟩

theorem nibs_step (k a b : Nat) (ha : a < 256) : nibs (k + 1) (a + 256 * b) = nib1 a + 256 * nibs k b := by
  obtain ⟨h1, h2, h3, h4, h5⟩ := lane_facts ha
  have e1 : ((a + 256 * b) / 2 &&& m1 (k + 1)) = (a / 2 &&& 85) + 256 * (b / 2 &&& m1 k) := by
    have : (a + 256 * b) / 2 = (a / 2 + 128 * (b % 2)) + 256 * (b / 2) := by omega
    rw [this, m1, and_split _ _ _ _ (by omega) (by omega)]
    congr 1
    rcases Nat.mod_two_eq_zero_or_one b with hb | hb
    · rw [hb]; simp
    · rw [hb, Nat.mul_one, h1]
  have e1' : (a + 256 * b &&& m1 (k + 1)) = (a &&& 85) + 256 * (b &&& m1 k) := by rw [m1, and_split _ _ _ _ (by omega) (by omega)]
  have f1 : ((a + 256 * b) / 2 &&& m1 (k + 1)) + (a + 256 * b &&& m1 (k + 1)) = ((a / 2 &&& 85) + (a &&& 85)) + 256 * ((b / 2 &&& m1 k) + (b &&& m1 k)) := by rw [e1, e1']; omega
  unfold nibs nib1
  simp only [f1]
  generalize (a / 2 &&& 85) + (a &&& 85) = ya at *
  generalize (b / 2 &&& m1 k) + (b &&& m1 k) = yb at *
  have e2 : ((ya + 256 * yb) / 4 &&& m2 (k + 1)) = (ya / 4 &&& 51) + 256 * (yb / 4 &&& m2 k) := by
    have : (ya + 256 * yb) / 4 = (ya / 4 + 64 * (yb % 4)) + 256 * (yb / 4) := by omega
    rw [this, m2, and_split _ _ _ _ (by omega) (by omega)]
    congr 1
    have := List.all_eq_true.1 (List.all_eq_true.1 lane_b ya (List.mem_range.2 h2)) (yb % 4) (List.mem_range.2 (by omega))
    simpa using this
  have e2' : (ya + 256 * yb &&& m2 (k + 1)) = (ya &&& 51) + 256 * (yb &&& m2 k) := by rw [m2, and_split _ _ _ _ (by omega) (by omega)]
  rw [e2, e2']; omega

theorem nibs_low : ∀ (k x : Nat), nibs k x % 16 ≤ 4
  | 0, x => by simp [nibs, m1, m2]
  | k + 1, x => by
    obtain ⟨_, _, _, _, h5⟩ := lane_facts (a := x % 256) (by omega)
    have : x = x % 256 + 256 * (x / 256) := by omega
    rw [this, nibs_step k _ _ (by omega)]
    omega

theorem lanes_step (k a b : Nat) (ha : a < 256) : lanes (k + 1) (a + 256 * b) = pop 8 a + 256 * lanes k b := by
  obtain ⟨_, _, h3, h4, _⟩ := lane_facts ha
  have hl := nibs_low k b
  unfold lanes
  rw [nibs_step k a b ha]
  generalize nib1 a = za at *
  generalize nibs k b = zb at *
  have : (za + 256 * zb) / 16 + (za + 256 * zb) = (za / 16 + 16 * (zb % 16) + za) + 256 * (zb / 16 + zb) := by omega
  rw [this, m4, and_split _ _ _ _ (by omega) (by omega), ← h4]
  congr 1
  have := List.all_eq_true.1 (List.all_eq_true.1 lane_c za (List.mem_range.2 h3)) (zb % 16) (List.mem_range.2 (by omega))
  simpa using this

theorem lanes_zero (x : Nat) : lanes 0 x = 0 := by simp [lanes, m4]

def ones64 (x : Nat) : Nat :=
  let y1 := (x / 2 &&& 6148914691236517205) + (x &&& 6148914691236517205)
  let y2 := (y1 / 4 &&& 3689348814741910323) + (y1 &&& 3689348814741910323)
  let y3 := (y2 / 16 + y2) &&& 1085102592571150095
  let y4 := y3 + y3 / 256
  let y5 := y4 + y4 / 65536
  let y6 := y5 + y5 / 4294967296
  y6 &&& 127

theorem ones64_lanes (x : Nat) : ones64 x = (let y3 := lanes 8 x; let y4 := y3 + y3 / 256; let y5 := y4 + y4 / 65536; (y5 + y5 / 4294967296) &&& 127) := by
  have a1 : m1 8 = 6148914691236517205 := by decide
  have a2 : m2 8 = 3689348814741910323 := by decide
  have a4 : m4 8 = 1085102592571150095 := by decide
  unfold ones64 lanes nibs
  rw [a1, a2, a4]

theorem byte_split (x : Nat) : x = x % 256 + 256 * (x / 256) := by omega

theorem lanes_all (x : Nat) : ∃ c0 c1 c2 c3 c4 c5 c6 c7, lanes 8 x = c0 + 256 * (c1 + 256 * (c2 + 256 * (c3 + 256 * (c4 + 256 * (c5 + 256 * (c6 + 256 * (c7 + 0))))))) ∧
    c0 ≤ 8 ∧ c1 ≤ 8 ∧ c2 ≤ 8 ∧ c3 ≤ 8 ∧ c4 ≤ 8 ∧ c5 ≤ 8 ∧ c6 ≤ 8 ∧ c7 ≤ 8 ∧ pop 64 x = c0 + (c1 + (c2 + (c3 + (c4 + (c5 + (c6 + c7)))))) := by
  have st : ∀ k y, lanes (k + 1) y = pop 8 (y % 256) + 256 * lanes k (y / 256) ∧ ∀ n, pop (8 + n) y = pop 8 (y % 256) + pop n (y / 256) := fun k y => by
    constructor
    · have := lanes_step k (y % 256) (y / 256) (by omega)
      rwa [← byte_split] at this
    · intro n
      rw [pop_add 8 n y, ← pop_mod 8 y]
  refine ⟨pop 8 (x % 256), pop 8 (x / 256 % 256), pop 8 (x / 256 / 256 % 256), pop 8 (x / 256 / 256 / 256 % 256), pop 8 (x / 256 / 256 / 256 / 256 % 256), pop 8 (x / 256 / 256 / 256 / 256 / 256 % 256),
    pop 8 (x / 256 / 256 / 256 / 256 / 256 / 256 % 256), pop 8 (x / 256 / 256 / 256 / 256 / 256 / 256 / 256 % 256), ?_, pop_le _ _, pop_le _ _, pop_le _ _, pop_le _ _, pop_le _ _, pop_le _ _, pop_le _ _, pop_le _ _, ?_⟩
  · rw [(st 7 x).1, (st 6 _).1, (st 5 _).1, (st 4 _).1, (st 3 _).1, (st 2 _).1, (st 1 _).1, (st 0 _).1, lanes_zero]
  · rw [show 64 = 8 + 56 from rfl, (st 0 x).2 56, show 56 = 8 + 48 from rfl, (st 0 _).2 48, show 48 = 8 + 40 from rfl, (st 0 _).2 40, show 40 = 8 + 32 from rfl, (st 0 _).2 32, show 32 = 8 + 24 from rfl, (st 0 _).2 24,
      show 24 = 8 + 16 from rfl, (st 0 _).2 16, show 16 = 8 + 8 from rfl, (st 0 _).2 8, ← pop_mod 8 (x / 256 / 256 / 256 / 256 / 256 / 256 / 256)]

theorem div2 {z0 z1 z2 a b : Nat} (s0 : z0 = a + 256 * z1) (ha : a < 256) (s1 : z1 = b + 256 * z2) (hb : b < 256) : z0 / 65536 = z2 := by omega
theorem div4 {z0 z1 z2 z3 z4 a b c d : Nat} (s0 : z0 = a + 256 * z1) (ha : a < 256) (s1 : z1 = b + 256 * z2) (hb : b < 256) (s2 : z2 = c + 256 * z3) (hc : c < 256) (s3 : z3 = d + 256 * z4) (hd : d < 256) : z0 / 4294967296 = z4 := by
  have h1 := div2 s0 ha s1 hb
  have h2 := div2 s2 hc s3 hd
  have : z0 / 4294967296 = z0 / 65536 / 65536 := by omega
  rw [this, h1, h2]

theorem sum_bytes {c0 c1 c2 c3 c4 c5 c6 c7 y y4 y5 : Nat} (hy4 : y4 = y + y / 256) (hy5 : y5 = y4 + y4 / 65536) (h : y = c0 + 256 * (c1 + 256 * (c2 + 256 * (c3 + 256 * (c4 + 256 * (c5 + 256 * (c6 + 256 * (c7 + 0)))))))) (b0 : c0 ≤ 8) (b1 : c1 ≤ 8) (b2 : c2 ≤ 8) (b3 : c3 ≤ 8) (b4 : c4 ≤ 8) (b5 : c5 ≤ 8) (b6 : c6 ≤ 8) (b7 : c7 ≤ 8) :
    (y5 + y5 / 4294967296) % 128 = c0 + (c1 + (c2 + (c3 + (c4 + (c5 + (c6 + c7)))))) := by
  have dv : ∀ {a r z : Nat}, z = a + 256 * r → a < 256 → z / 256 = r := by intro a r z h1 h2; omega
  obtain ⟨r7, h7⟩ : ∃ r7, r7 = c7 + 0 := ⟨_, rfl⟩
  rw [← h7] at h
  obtain ⟨r6, h6⟩ : ∃ r6, r6 = c6 + 256 * r7 := ⟨_, rfl⟩
  rw [← h6] at h
  obtain ⟨r5, h5⟩ : ∃ r5, r5 = c5 + 256 * r6 := ⟨_, rfl⟩
  rw [← h5] at h
  obtain ⟨r4, h4⟩ : ∃ r4, r4 = c4 + 256 * r5 := ⟨_, rfl⟩
  rw [← h4] at h
  obtain ⟨r3, h3⟩ : ∃ r3, r3 = c3 + 256 * r4 := ⟨_, rfl⟩
  rw [← h3] at h
  obtain ⟨r2, h2⟩ : ∃ r2, r2 = c2 + 256 * r3 := ⟨_, rfl⟩
  rw [← h2] at h
  obtain ⟨r1, h1⟩ : ∃ r1, r1 = c1 + 256 * r2 := ⟨_, rfl⟩
  rw [← h1] at h
  have q1 := dv h (by omega)
  have s0 : y + r1 = (c0 + c1) + 256 * (r1 + r2) := by omega
  have s1 : r1 + r2 = (c1 + c2) + 256 * (r2 + r3) := by omega
  have s2 : r2 + r3 = (c2 + c3) + 256 * (r3 + r4) := by omega
  have s3 : r3 + r4 = (c3 + c4) + 256 * (r4 + r5) := by omega
  have s4 : r4 + r5 = (c4 + c5) + 256 * (r5 + r6) := by omega
  have s5 : r5 + r6 = (c5 + c6) + 256 * (r6 + r7) := by omega
  have s6 : r6 + r7 = (c6 + c7) + 256 * r7 := by omega
  rw [q1] at hy4
  rw [← hy4] at s0
  clear q1 hy4 h
  obtain ⟨z0, hz0⟩ : ∃ z0, z0 = y4 := ⟨_, rfl⟩
  rw [← hz0] at s0 hy5
  clear hz0
  generalize r1 + r2 = z1 at *
  generalize r2 + r3 = z2 at *
  generalize r3 + r4 = z3 at *
  generalize r4 + r5 = z4 at *
  generalize r5 + r6 = z5 at *
  generalize r6 + r7 = z6 at *
  rw [div2 s0 (by omega) s1 (by omega)] at hy5
  have t0 : z0 + z2 = (c0 + c1 + c2 + c3) + 256 * (z1 + z3) := by omega
  have t1 : z1 + z3 = (c1 + c2 + c3 + c4) + 256 * (z2 + z4) := by omega
  have t2 : z2 + z4 = (c2 + c3 + c4 + c5) + 256 * (z3 + z5) := by omega
  have t3 : z3 + z5 = (c3 + c4 + c5 + c6) + 256 * (z4 + z6) := by omega
  have t4 : z4 + z6 = (c4 + c5 + c6 + c7) + 256 * (z5 + r7) := by omega
  rw [← hy5] at t0
  have q3 := div4 t0 (by omega) t1 (by omega) t2 (by omega) t3 (by omega)
  rw [q3]
  generalize z4 + z6 = w4 at *
  generalize z1 + z3 = w1 at *
  clear s0 s1 s2 s3 s4 s5 s6 t1 t2 t3 hy5 q3 dv h1 h2 h3 h4 h5 h6 h7
  omega

theorem ones64_pop (x : Nat) : ones64 x = pop 64 x := by
  rw [ones64_lanes]
  obtain ⟨c0, c1, c2, c3, c4, c5, c6, c7, h, b0, b1, b2, b3, b4, b5, b6, b7, hp⟩ := lanes_all x
  have := sum_bytes rfl rfl h b0 b1 b2 b3 b4 b5 b6 b7
  rw [show (127 : Nat) = 2 ^ 7 - 1 from rfl, hp]
  simp only
  rw [Nat.and_two_pow_sub_one_eq_mod]
  exact this

/-! the least one -/
end Go.Dn

/-
  Slices of slices of whole numbers, as values.
-/

namespace Go.Dn

end Go.Dn

/-
  Maps from whole numbers to numbers, by what they answer.
-/

namespace Go.Dn

section
variable {pg : Pg} {R : Rec}
end

end Go.Dn

/-
  Slices of slices that may be written, each with memory of its own (literal or appended).
-/

namespace Go.Dn

end Go.Dn

/-
  slices.SortFunc on an own row: the elements sorted.
-/

namespace Go.Dn
open Go.Sort

structure Ordr {α : Type} (cf : α → α → Int) : Prop where
  irr : ∀ x, ¬ cf x x < 0
  tr : ∀ x y z, cf x y < 0 → cf y z < 0 → cf x z < 0
  ntr : ∀ x y z, ¬ cf x y < 0 → ¬ cf y z < 0 → ¬ cf x z < 0

theorem put2_all {α : Type} {l m : List α} {off : Nat} (h : off + m.length ≤ l.length) : ((put2 l off m).drop off).take m.length = m := by
  unfold put2
  have e : (l.take off).length = off := by simp; omega
  rw [List.append_assoc, List.drop_append_of_le_length (by omega), List.drop_of_length_le (by omega), List.nil_append, List.take_left']
  rfl

theorem sort_own {α : Type} {E : El α} (hag : E.ag = true) {pg : Pg} {f g : Nat} {cs : List TV} {H : Heap} {t : TV} {l : List α} (hQ : pg.Q f = some E.sz) (h : E.Own H t l) {cf : α → α → Int} (hO : Ordr cf)
    (hcmp : ∀ H0 x y, x ∈ l → y ∈ l → (∀ j, t.idOf ≠ some j → H0[j]? = H[j]?) → cmpRun pg (den pg) H0 g cs (.agg (E.enc x)) (.agg (E.enc y)) = some (cf x y)) (hlen : l.length < 4611686018427387904) :
    ∃ l' H', callRun pg (den pg) .so [.fn f [] [], t, .fn g [] cs] H = some (.tup [], H') ∧ E.Own H' t l' ∧ l'.Perm l ∧ l'.Pairwise (fun x y => ¬ cf y x < 0) ∧ (∀ j, t.idOf ≠ some j → H'[j]? = H[j]?) ∧ H'.length = H.length ∧ ∀ id off len cap c ag, t = .sl id off E.sz E.ag len cap → H[id]? = some (.cells c ag) → H' = H.set id (.cells (put2 c 0 (E.flat l')) ag) := by
  rcases h with ⟨rfl, rfl⟩ | ⟨hne, id, ag, c, rfl, h1, h2, h3⟩
  · refine ⟨[], H, ?_, .inl ⟨rfl, rfl⟩, List.Perm.refl _, List.Pairwise.nil, fun _ _ => rfl, rfl, fun id off len cap c ag h => by cases h⟩
    simp [callRun, sortRun, hQ]
  have hn : 0 < l.length := List.length_pos_iff.2 hne
  have hid := (List.getElem?_eq_some_iff.1 h1).1
  obtain ⟨n, hnl⟩ : ∃ n, n = l.length := ⟨_, rfl⟩
  -- an element's cells
  have hel : ∀ i, i < l.length → ∃ x, l[i]? = some x ∧ elAt E.sz 0 c i = E.enc x := by
    intro i hi
    refine ⟨l[i], List.getElem?_eq_getElem hi, ?_⟩
    have e1 : (i * E.sz) + E.sz ≤ l.length * E.sz := by
      have := Nat.mul_le_mul_right E.sz (show i + 1 ≤ l.length from hi); rw [Nat.add_mul, Nat.one_mul] at this; exact this
    have e2 : elAt E.sz 0 c i = ((c.take (l.length * E.sz)).drop (i * E.sz)).take E.sz := by
      unfold elAt
      rw [Nat.zero_add, List.drop_take, List.take_take]
      congr 1
      omega
    rw [e2, h3, E.flat_drop, List.drop_eq_getElem_cons hi, E.flat_cons, List.take_left' (E.len _)]
  have hget : ∀ i, i < l.length → elAt E.sz 0 c i = E.enc (l.getD i (l[0]'hn)) := fun i hi => by
    obtain ⟨x, hx, he⟩ := hel i hi
    rw [he, List.getD_eq_getElem?_getD, hx]; rfl
  have hcr : ∀ i j, i < l.length → j < l.length → cmpRun pg (den pg) (H.set id .dead) g cs (.agg (elAt E.sz 0 c i)) (.agg (elAt E.sz 0 c j)) = some (cf (l.getD i (l[0]'hn)) (l.getD j (l[0]'hn))) := fun i j hi hj => by
    rw [hget i hi, hget j hj]
    have hm : ∀ i, i < l.length → l.getD i (l[0]'hn) ∈ l := fun i hi => by rw [List.getD_eq_getElem?_getD, List.getElem?_eq_getElem hi]; exact List.getElem_mem hi
    exact hcmp _ _ _ (hm i hi) (hm j hj) fun k hk => List.getElem?_set_ne fun e => hk (by rw [← e]; rfl)
  have hT : mapO (fun i => mapO (fun j => cmpRun pg (den pg) (H.set id .dead) g cs (.agg (elAt E.sz 0 c i)) (.agg (elAt E.sz 0 c j))) (List.range l.length)) (List.range l.length) =
      some ((List.range l.length).map fun i => (List.range l.length).map fun j => cf (l.getD i (l[0]'hn)) (l.getD j (l[0]'hn))) := by
    have key : ∀ {α β : Type} {f : α → Option β} {k : α → β} {m : List α}, (∀ a ∈ m, f a = some (k a)) → mapO f m = some (m.map k) := by
      intro α β f k m
      induction m with
      | nil => intro _; rfl
      | cons a m ih => intro hm; simp only [mapO, hm a (List.mem_cons_self ..), Option.bind_some, ih fun b hb => hm b (List.mem_cons_of_mem _ hb), List.map_cons]
    refine key fun i hi => key fun j hj => ?_
    exact hcr i j (List.mem_range.1 hi) (List.mem_range.1 hj)
  obtain ⟨T, hTd⟩ : ∃ T, T = (List.range l.length).map fun i => (List.range l.length).map fun j => cf (l.getD i (l[0]'hn)) (l.getD j (l[0]'hn)) := ⟨_, rfl⟩
  rw [← hTd] at hT
  have hcf : ∀ i j, cfT T l.length i j = cf (l.getD (min i (l.length - 1)) (l[0]'hn)) (l.getD (min j (l.length - 1)) (l[0]'hn)) := by
    intro i j
    unfold cfT
    have hr : ∀ i, (List.range l.length)[min i (l.length - 1)]? = some (min i (l.length - 1)) := fun i => by rw [List.getElem?_range (by omega)]
    simp only [hTd, List.getD_eq_getElem?_getD, List.getElem?_map, hr, Option.map_some, Option.getD_some]
  have hS : SWO (ltT T l.length) := by
    refine ⟨fun x => ?_, fun x y z => ?_, fun x y z => ?_⟩
    · unfold ltT; rw [hcf]; exact decide_eq_false (hO.irr _)
    · unfold ltT; rw [hcf, hcf, hcf]; simp only [decide_eq_true_eq]; exact hO.tr _ _ _
    · unfold ltT; rw [hcf, hcf, hcf]; simp only [decide_eq_false_iff_not]; exact hO.ntr _ _ _
  obtain ⟨p1, p2, p3⟩ := sorted_perm hS
  obtain ⟨d, hd⟩ : ∃ d, d = sorted T l.length := ⟨_, rfl⟩
  rw [← hd] at p1 p2 p3
  have hdl : ∀ i ∈ d, i < l.length := fun i hi => List.mem_range.1 (p1.mem_iff.1 hi)
  have hfl : d.flatMap (elAt E.sz 0 c) = E.flat (d.map fun i => l.getD i (l[0]'hn)) := by
    unfold El.flat
    rw [List.flatMap_def, List.flatMap_def, List.map_map]
    congr 1
    apply List.map_congr_left
    intro i hi
    exact hget i (hdl i hi)
  have hll : (d.map fun i => l.getD i (l[0]'hn)).length = l.length := by simpa using p2
  have hrun : sortRun pg (den pg) f [.sl id 0 E.sz E.ag l.length none, .fn g [] cs] H = some (.tup [], H.set id (.cells (put2 c 0 (E.flat (d.map fun i => l.getD i (l[0]'hn)))) ag)) := by
    unfold sortRun
    simp only [hQ, Option.bind_some]
    rw [if_neg (by omega), h1]
    simp only
    rw [if_pos ⟨trivial, E.pos, trivial, hlen, by omega⟩, hT, Option.bind_some, if_pos hS, ← hd, hfl]
  have hfn := E.flat_len (d.map fun i => l.getD i (l[0]'hn))
  rw [hll] at hfn
  refine ⟨d.map fun i => l.getD i (l[0]'hn), H.set id (.cells (put2 c 0 (E.flat (d.map fun i => l.getD i (l[0]'hn)))) ag), ?_, .inr ⟨fun e => by rw [e] at hll; simp at hll; omega, id, ag, put2 c 0 (E.flat (d.map fun i => l.getD i (l[0]'hn))), by rw [hll], by simp [hid], ?_, ?_⟩, ?_, ?_, fun j hj => List.getElem?_set_ne fun e => hj (by rw [← e]; rfl), by simp, fun id' off' len' cap' c' ag' h h' => by
    cases h
    rw [h1] at h'
    cases h'
    rfl⟩
  · exact hrun
  · rw [hll]; simp only [put2, List.length_append, List.length_take, List.length_drop, hfn]; omega
  · rw [hll, ← hfn]
    have := put2_all (l := c) (m := E.flat (d.map fun i => l.getD i (l[0]'hn))) (off := 0) (by omega)
    simpa using this
  · have h5 := p1.map fun i => l.getD i (l[0]'hn)
    refine h5.trans (List.Perm.of_eq ?_)
    apply List.ext_getElem?
    intro i
    rw [List.getElem?_map]
    rcases Nat.lt_or_ge i l.length with hi | hi
    · rw [List.getElem?_range hi, Option.map_some, List.getD_eq_getElem?_getD, List.getElem?_eq_getElem hi]; rfl
    · rw [List.getElem?_eq_none (by simpa using hi), List.getElem?_eq_none hi]; rfl
  · rw [List.pairwise_map, List.pairwise_iff_getElem]
    intro i j hi hj hij
    have h5 := p3 i j (Nat.zero_le _) hij (by omega)
    have gi : d.toArray[i]! = d[i] := by simp [hi]
    have gj : d.toArray[j]! = d[j] := by simp [hj]
    rw [gi, gj] at h5
    unfold ltT at h5
    rw [hcf] at h5
    have b1 := hdl d[i] (List.getElem_mem hi)
    have b2 := hdl d[j] (List.getElem_mem hj)
    rw [show min d[j] (l.length - 1) = d[j] by omega, show min d[i] (l.length - 1) = d[i] by omega] at h5
    exact of_decide_eq_false h5

end Go.Dn

