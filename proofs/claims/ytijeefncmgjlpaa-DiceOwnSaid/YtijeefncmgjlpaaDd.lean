/-
  Code run frame by frame: equations for proofs by rewriting.
-/
import Derived.Test.YtijeefncmgjlpaaDc
import Derived.KernelRfl
import Derived.Test.YtijeefncmgjlpaaDb
set_option linter.unusedSimpArgs false
set_option linter.unusedVariables false

namespace Go.Dn

inductive Fr where
 | c (x : DC)
 | ops (l : List DOper) (ks : List Nat)
 | blk (id : Nat)
 | opd (l all : List DOper) (ks : List Nat) (fr : List (Nat × Nat)) (hs : List Heap)

section
variable (pg : Pg) (R : Rec)

noncomputable def go : List Fr -> Ex -> Env -> Heap -> Option Out
 | [], x, e, H => some ⟨x, e, H⟩
 | .c c :: k, .normal, e, H => (runC pg R c e H).bind fun o => go k o.ex o.env o.H
 | .ops l ks :: k, .normal, e, H => (opsRun pg R l e H).bind fun p => go k .normal (keepE ks p.1) p.2
 | .opd l all ks fr hs :: k, .normal, e, H => (opsTr pg R l e H).bind fun p => if frOk pg all p.1 (hs ++ p.2.1) fr then go k .normal (keepE ks p.1) p.2.2 else none
 | .blk id :: k, x, e, H => go k (if x = .exit id then .normal else x) e H
 | _ :: k, x, e, H => go k x e H

noncomputable def cont : Option Out -> List Fr -> Option Out
 | some o, k => go pg R k o.ex o.env o.H
 | none, _ => none

noncomputable def fin : Option (TV × Heap) -> Option Nat -> List DOper -> List Nat -> List Fr -> Env -> Option Out
 | some (v, H), d, os, ks, k, e => go pg R (.ops os ks :: k) .normal (putE e d v) H
 | none, _, _, _, _, _ => none

noncomputable def dkc (op : DK) (vs : List TV) (H : Heap) : Option (TV × Heap) :=
 match op with
 | .call m => callRun pg R m vs H
 | op => dk op vs H

noncomputable def stp (op : DK) (d : Option Nat) : Option (List TV) -> List DOper -> List Nat -> List Fr -> Env -> Heap -> Option Out
 | some vs, os, ks, k, e, H => fin pg R (dkc pg R op vs H) d os ks k e
 | none, _, _, _, _, _ => none

noncomputable def grd : Option TV -> Bool -> DK -> Option Nat -> List Opnd -> List DOper -> List Nat -> List Fr -> Env -> Heap -> Option Out
 | some (.b x), w, op, d, a, os, ks, k, e, H => if x = w then stp pg R op d (mapO (evalO pg e) a) os ks k e H else go pg R (.ops os ks :: k) .normal (putE e d .undef) H
 | some .undef, _, _, d, _, os, ks, k, e, H => go pg R (.ops os ks :: k) .normal (putE e d .undef) H
 | _, _, _, _, _, _, _, _, _, _ => none

noncomputable def find : Option (TV × Heap) -> Option Nat -> List DOper -> List DOper -> List Nat -> List (Nat × Nat) -> List Heap -> List Fr -> Env -> Option Out
 | some (v, H), d, os, all, ks, fr, hs, k, e => go pg R (.opd os all ks fr hs :: k) .normal (putE e d v) H
 | none, _, _, _, _, _, _, _, _ => none

noncomputable def stpd (op : DK) (d : Option Nat) : Option (List TV) -> List DOper -> List DOper -> List Nat -> List (Nat × Nat) -> List Heap -> List Fr -> Env -> Heap -> Option Out
 | some vs, os, all, ks, fr, hs, k, e, H => find pg R (dkc pg R op vs H) d os all ks fr (hs ++ [H]) k e
 | none, _, _, _, _, _, _, _, _ => none

noncomputable def grdd : Option TV -> Bool -> DK -> Option Nat -> List Opnd -> List DOper -> List DOper -> List Nat -> List (Nat × Nat) -> List Heap -> List Fr -> Env -> Heap -> Option Out
 | some (.b x), w, op, d, a, os, all, ks, fr, hs, k, e, H => if x = w then stpd pg R op d (mapO (evalO pg e) a) os all ks fr hs k e H else go pg R (.opd os all ks fr (hs ++ [H]) :: k) .normal (putE e d .undef) H
 | some .undef, _, _, d, _, os, all, ks, fr, hs, k, e, H => go pg R (.opd os all ks fr (hs ++ [H]) :: k) .normal (putE e d .undef) H
 | _, _, _, _, _, _, _, _, _, _, _, _, _ => none

noncomputable def cnd : Option TV -> DC -> DC -> List Fr -> Env -> Heap -> Option Out
 | some (.b t), x, y, k, e, H => if t then go pg R (.c x :: k) .normal e H else go pg R (.c y :: k) .normal e H
 | _, _, _, _, _, _ => none

variable {pg : Pg} {R : Rec}

theorem runC_go (c : DC) (e : Env) (H : Heap) : runC pg R c e H = go pg R [.c c] .normal e H := by
 simp only [go]
 cases runC pg R c e H <;> rfl

theorem Z0 (x : Ex) (e : Env) (H : Heap) : go pg R [] x e H = some ⟨x, e, H⟩ := rfl

theorem Z2 (c : DC) (k : List Fr) (id : Nat) (e : Env) (H : Heap) : go pg R (.c c :: k) (.exit id) e H = go pg R k (.exit id) e H := rfl
theorem Z3 (c : DC) (k : List Fr) (e : Env) (H : Heap) : go pg R (.c c :: k) .ret e H = go pg R k .ret e H := rfl
theorem Z4 (id : Nat) (k : List Fr) (e : Env) (H : Heap) : go pg R (.blk id :: k) .normal e H = go pg R k .normal e H := rfl
theorem Z5 (id : Nat) (k : List Fr) (e : Env) (H : Heap) : go pg R (.blk id :: k) .ret e H = go pg R k .ret e H := rfl
theorem Z6 (id : Nat) (k : List Fr) (j : Nat) (e : Env) (H : Heap) : go pg R (.blk id :: k) (.exit j) e H = if j = id then go pg R k .normal e H else go pg R k (.exit j) e H := by
 by_cases h : j = id <;> simp [go, h]

theorem Z7 (k : List Fr) (e : Env) (H : Heap) : go pg R (.c .skip :: k) .normal e H = go pg R k .normal e H := rfl
theorem Z8 (id : Nat) (k : List Fr) (e : Env) (H : Heap) : go pg R (.c (.exit id) :: k) .normal e H = go pg R k (.exit id) e H := rfl
theorem Z9 (k : List Fr) (e : Env) (H : Heap) : go pg R (.c .ret :: k) .normal e H = go pg R k .ret e H := rfl
theorem Za (c : DC) (k : List Fr) (e : Env) (H : Heap) : go pg R (.c (.scope c) :: k) .normal e H = go pg R (.c c :: k) .normal e H := rfl

theorem Zb (x y : DC) (k : List Fr) (e : Env) (H : Heap) : go pg R (.c (.seq x y) :: k) .normal e H = go pg R (.c x :: .c y :: k) .normal e H := by
 simp only [go, runC]
 cases runC pg R x e H with
 | none => rfl
 | some o =>
  simp only [Option.bind_some]
  cases h : o.ex with
  | normal => simp [go]
  | exit id => simp [go, h]
  | ret => simp [go, h]

theorem Zc (l : List DOper) (ks : List Nat) (k : List Fr) (e : Env) (H : Heap) : go pg R (.c (.reg l ks) :: k) .normal e H = go pg R (.ops l ks :: k) .normal e H := by
 simp only [go, runC]
 cases opsRun pg R l e H <;> rfl

theorem Zl (id : Nat) (x : DC) (k : List Fr) (e : Env) (H : Heap) : go pg R (.c (.block id x) :: k) .normal e H = go pg R (.c x :: .blk id :: k) .normal e H := by
 simp only [go, runC]
 cases runC pg R x e H with
 | none => rfl
 | some o =>
  simp only [Option.map_some, Option.bind_some]
  by_cases h : o.ex = .exit id <;> simp [h]

theorem Zm (c : Opnd) (x y : DC) (k : List Fr) (e : Env) (H : Heap) : go pg R (.c (.cond c x y) :: k) .normal e H = cnd pg R (evalO pg e c) x y k e H := by
 simp only [go, runC, cnd]
 split
 ·rename_i t h
  rw [h]
  cases t <;> rfl
 ·rename_i h
  cases he : evalO pg e c with
  | none => rfl
  | some v =>
   cases v <;> first | rfl | exact absurd he (h _)

theorem Zn (t : Bool) (x y : DC) (k : List Fr) (e : Env) (H : Heap) : cnd pg R (some (.b t)) x y k e H = if t = true then go pg R (.c x :: k) .normal e H else go pg R (.c y :: k) .normal e H := rfl

theorem Zo (ks : List Nat) (k : List Fr) (e : Env) (H : Heap) : go pg R (.ops [] ks :: k) .normal e H = go pg R k .normal (keepE ks e) H := rfl

theorem operRun_eq (o : DOper) (e : Env) (H : Heap) (hg : guardRun e o.g = some true) : operRun pg R o e H = (mapO (evalO pg e) o.a).bind fun vs => (dkc pg R o.k vs H).map fun p => (putE e o.d p.1, p.2) := by
 simp only [operRun, hg, Option.bind_some, if_true]
 cases mapO (evalO pg e) o.a with
 | none => rfl
 | some vs => simp only [Option.bind_some, dkc]; cases o.k <;> rfl

theorem Zp (d : Option Nat) (op : DK) (a : List Opnd) (os : List DOper) (ks : List Nat) (k : List Fr) (e : Env) (H : Heap) :
  go pg R (.ops (⟨d, op, a, none⟩ :: os) ks :: k) .normal e H = stp pg R op d (mapO (evalO pg e) a) os ks k e H := by
 simp only [go, opsRun]
 rw [operRun_eq _ _ _ rfl]
 simp only [stp]
 cases mapO (evalO pg e) a with
 | none => rfl
 | some vs =>
  simp only [Option.bind_some]
  cases dkc pg R op vs H with
  | none => rfl
  | some p => rfl

theorem Zt (op : DK) (d : Option Nat) (vs : List TV) (os : List DOper) (ks : List Nat) (k : List Fr) (e : Env) (H : Heap) : stp pg R op d (some vs) os ks k e H = fin pg R (dkc pg R op vs H) d os ks k e := rfl

theorem Zu (v : TV) (H : Heap) (d : Option Nat) (os : List DOper) (ks : List Nat) (k : List Fr) (e : Env) : fin pg R (some (v, H)) d os ks k e = go pg R (.ops os ks :: k) .normal (putE e d v) H := rfl

theorem Zq (d : Option Nat) (op : DK) (a : List Opnd) (s : Nat) (w : Bool) (os : List DOper) (ks : List Nat) (k : List Fr) (e : Env) (H : Heap) :
  go pg R (.ops (⟨d, op, a, some (s, w)⟩ :: os) ks :: k) .normal e H = grd pg R (get e s) w op d a os ks k e H := by
 cases hs : get e s with
 | none => simp [go, opsRun, operRun, guardRun, hs, grd]
 | some v =>
  cases v <;> try (simp [go, opsRun, operRun, guardRun, hs, grd]; done)
  rename_i x
  by_cases hx : x = w
  ·have := Zp (pg := pg) (R := R) d op a os ks k e H
   simp only [grd, hx, if_true]
   rw [<- this]
   simp only [go, opsRun, operRun_eq ⟨d, op, a, some (s, w)⟩ e H (by simp [guardRun, hs, hx]), operRun_eq ⟨d, op, a, none⟩ e H rfl]
  ·simp [go, opsRun, operRun, guardRun, hs, grd, hx]

theorem Zr (x w : Bool) (op : DK) (d : Option Nat) (a : List Opnd) (os : List DOper) (ks : List Nat) (k : List Fr) (e : Env) (H : Heap) : grd pg R (some (.b x)) w op d a os ks k e H = if x = w then stp pg R op d (mapO (evalO pg e) a) os ks k e H else go pg R (.ops os ks :: k) .normal (putE e d .undef) H := rfl

theorem Zs (w : Bool) (op : DK) (d : Option Nat) (a : List Opnd) (os : List DOper) (ks : List Nat) (k : List Fr) (e : Env) (H : Heap) : grd pg R (some .undef) w op d a os ks k e H = go pg R (.ops os ks :: k) .normal (putE e d .undef) H := rfl

theorem Zd (l : List DOper) (ks : List Nat) (fr : List (Nat × Nat)) (k : List Fr) (e : Env) (H : Heap) : go pg R (.c (.regd l ks fr) :: k) .normal e H = go pg R (.opd l l ks fr [] :: k) .normal e H := by
 simp only [go, runC, List.nil_append]
 cases opsTr pg R l e H with
 | none => rfl
 | some p =>
  simp only [Option.bind_some]
  split <;> rfl

theorem Ze (all : List DOper) (ks : List Nat) (fr : List (Nat × Nat)) (hs : List Heap) (k : List Fr) (e : Env) (H : Heap) : go pg R (.opd [] all ks fr hs :: k) .normal e H = if frOk pg all e (hs ++ [H]) fr = true then go pg R k .normal (keepE ks e) H else none := rfl

theorem Zf (d : Option Nat) (op : DK) (a : List Opnd) (os all : List DOper) (ks : List Nat) (fr : List (Nat × Nat)) (hs : List Heap) (k : List Fr) (e : Env) (H : Heap) :
  go pg R (.opd (⟨d, op, a, none⟩ :: os) all ks fr hs :: k) .normal e H = stpd pg R op d (mapO (evalO pg e) a) os all ks fr hs k e H := by
 simp only [go, opsTr]
 rw [operRun_eq _ _ _ rfl]
 simp only [stpd]
 cases mapO (evalO pg e) a with
 | none => rfl
 | some vs =>
  simp only [Option.bind_some]
  cases dkc pg R op vs H with
  | none => rfl
  | some p =>
   simp only [find, go, Option.map_some, Option.bind_some]
   cases opsTr pg R os (putE e d p.1) p.2 with
   | none => rfl
   | some q => simp [List.append_assoc]

theorem Zj (op : DK) (d : Option Nat) (vs : List TV) (os all : List DOper) (ks : List Nat) (fr : List (Nat × Nat)) (hs : List Heap) (k : List Fr) (e : Env) (H : Heap) : stpd pg R op d (some vs) os all ks fr hs k e H = find pg R (dkc pg R op vs H) d os all ks fr (hs ++ [H]) k e := rfl

theorem Zk (v : TV) (H : Heap) (d : Option Nat) (os all : List DOper) (ks : List Nat) (fr : List (Nat × Nat)) (hs : List Heap) (k : List Fr) (e : Env) : find pg R (some (v, H)) d os all ks fr hs k e = go pg R (.opd os all ks fr hs :: k) .normal (putE e d v) H := rfl

theorem Zg (d : Option Nat) (op : DK) (a : List Opnd) (s : Nat) (w : Bool) (os all : List DOper) (ks : List Nat) (fr : List (Nat × Nat)) (hs : List Heap) (k : List Fr) (e : Env) (H : Heap) :
  go pg R (.opd (⟨d, op, a, some (s, w)⟩ :: os) all ks fr hs :: k) .normal e H = grdd pg R (get e s) w op d a os all ks fr hs k e H := by
 have skip : ∀ b, guardRun e (some (s, w)) = some b -> b = false -> go pg R (.opd (⟨d, op, a, some (s, w)⟩ :: os) all ks fr hs :: k) .normal e H = go pg R (.opd os all ks fr (hs ++ [H]) :: k) .normal (putE e d .undef) H := by
  intro b hb h
  subst h
  simp only [go, opsTr, operRun, hb, Option.bind_some, Bool.false_eq_true, if_false]
  cases opsTr pg R os (putE e d .undef) H with
  | none => rfl
  | some q => simp [List.append_assoc]
 cases hs' : get e s with
 | none => simp [go, opsTr, operRun, guardRun, hs', grdd]
 | some v =>
  cases v <;> try (simp [go, opsTr, operRun, guardRun, hs', grdd]; done)
  ·exact skip false (by simp [guardRun, hs']) rfl
  ·rename_i x
   by_cases hx : x = w
   ·have := Zf (pg := pg) (R := R) d op a os all ks fr hs k e H
    simp only [grdd, hx, if_true]
    rw [<- this]
    simp only [go, opsTr, operRun_eq ⟨d, op, a, some (s, w)⟩ e H (by simp [guardRun, hs', hx]), operRun_eq ⟨d, op, a, none⟩ e H rfl]
   ·rw [skip false (by simp [guardRun, hs', hx]) rfl]
    simp [grdd, hx]

theorem Zh (x w : Bool) (op : DK) (d : Option Nat) (a : List Opnd) (os all : List DOper) (ks : List Nat) (fr : List (Nat × Nat)) (hs : List Heap) (k : List Fr) (e : Env) (H : Heap) : grdd pg R (some (.b x)) w op d a os all ks fr hs k e H = if x = w then stpd pg R op d (mapO (evalO pg e) a) os all ks fr hs k e H else go pg R (.opd os all ks fr (hs ++ [H]) :: k) .normal (putE e d .undef) H := rfl

theorem Zi (w : Bool) (op : DK) (d : Option Nat) (a : List Opnd) (os all : List DOper) (ks : List Nat) (fr : List (Nat × Nat)) (hs : List Heap) (k : List Fr) (e : Env) (H : Heap) : grdd pg R (some .undef) w op d a os all ks fr hs k e H = go pg R (.opd os all ks fr (hs ++ [H]) :: k) .normal (putE e d .undef) H := rfl

theorem go_den (c : DC) (k : List Fr) (e : Env) (H : Heap) : go pg (den pg) (.c c :: k) .normal e H = cont pg (den pg) (den pg c e H) k := by
 rw [den_eq]
 simp only [go, cont]
 cases runC pg (den pg) c e H <;> rfl

theorem Zw (x : Ex) (e : Env) (H : Heap) (k : List Fr) : cont pg R (some ⟨x, e, H⟩) k = go pg R k x e H := rfl

theorem Z1 (ks : List Nat) (x : DC) (e : Env) (H : Heap) : go pg (den pg) [.c (.loop ks x)] .normal e H = den pg (.loop ks x) e H := by
 rw [<- runC_go, <- den_eq]

theorem den_loop (ks : List Nat) (x : DC) (e : Env) (H : Heap) : den pg (.loop ks x) e H = cont pg (den pg) (go pg (den pg) [.c x] .normal (keepE ks e) H) [.c (.loop ks x)] := by
 rw [den_eq, <- runC_go]
 simp only [runC]
 cases runC pg (den pg) x (keepE ks e) H with
 | none => rfl
 | some o =>
  obtain ⟨x', e', H'⟩ := o
  simp only [Option.bind_some, cont]
  cases x' with
  | normal =>
   rw [go_den]
   simp only [if_true]
   cases den pg (.loop ks x) e' H' <;> rfl
  | exit id => rw [Z2, Z0]; simp
  | ret => rw [Z3, Z0]; simp

end

/-! operations -/
section
variable {pg : Pg} {R : Rec}
def up (o : Option TV) (H : Heap) : Option (TV × Heap) := o.map fun v => (v, H)
theorem Zv (v : TV) (H : Heap) : up (some v) H = some (v, H) := rfl

theorem Zx (m : CMode) (vs : List TV) (H : Heap) : dkc pg R (.call m) vs H = callRun pg R m vs H := rfl
theorem k_mv (x : TV) (H : Heap) : dkc pg R .mv [x] H = some (x, H) := rfl
theorem Zy (c : Bool) (a b : TV) (H : Heap) : dkc pg R .pick [.b c, a, b] H = some (if c = true then a else b, H) := rfl
theorem Zz (op : BinOp) (x y : TV) (H : Heap) : dkc pg R (.binI op) [x, y] H = up (binI op x y) H := rfl
theorem ZA (neg x y : Bool) (H : Heap) : dkc pg R (.eqB neg) [.b x, .b y] H = some (.b (negb neg (x == y)), H) := rfl
theorem ZB (neg : Bool) (ks : List Bool) (x y : List TV) (H : Heap) : dkc pg R (.eqA neg ks) [.agg x, .agg y] H = up ((eqL ks x y).map fun e => .b (negb neg e)) H := by
 simp only [dkc, dk, up]; cases eqL ks x y <;> rfl
theorem ZC (x : Bool) (H : Heap) : dkc pg R .notB [.b x] H = some (.b (!x), H) := rfl
theorem ZD (k : IntKind) (x : Int) (H : Heap) : dkc pg R (.negI k) [.i k x] H = some (wrapR k (0 - x), H) := by simp [dkc, dk]
theorem ZE (k k' : IntKind) (n : Int) (H : Heap) : dkc pg R (.conv k) [.i k' n] H = some (wrapR k n, H) := rfl
theorem ZF (z : List TV) (ag : Bool) (H : Heap) : dkc pg R (.alloc z ag) [] H = some (.ref H.length 0, H ++ [.cells z ag]) := rfl
theorem ZG (l : List TV) (H : Heap) (h : l.all TV.one = true) : dkc pg R (.box true) [.agg l] H = some (.ref H.length 0, H ++ [.cells l true]) := by simp [dkc, dk, TV.cells, TV.isAgg, h]
theorem k_box (x : TV) (H : Heap) (h : x.one = true) : dkc pg R (.box false) [x] H = some (.ref H.length 0, H ++ [.cells [x] false]) := by
 have : x.cells = [x] := by cases x <;> simp_all [TV.cells, TV.one]
 have h2 : x.isAgg = false := by cases x <;> simp_all [TV.isAgg, TV.one]
 simp [dkc, dk, this, h, h2]
theorem ZH (k : IntKind) (n : Int) (H : Heap) : dkc pg R (.box false) [.i k n] H = some (.ref H.length 0, H ++ [.cells [.i k n] false]) := rfl
theorem ZI (x : Bool) (H : Heap) : dkc pg R (.box false) [.b x] H = some (.ref H.length 0, H ++ [.cells [.b x] false]) := rfl
theorem ZJ (H : Heap) : dkc pg R (.box false) [.nilsl] H = some (.ref H.length 0, H ++ [.cells [.nilsl] false]) := rfl
theorem ZK (bo : Bool) (sz : Nat) (es : List TV) (H : Heap) : dkc pg R (.box false) [.bs bo sz es] H = some (.ref H.length 0, H ++ [.cells [.bs bo sz es] false]) := rfl
def ldC : Option AObj -> Nat -> Bool -> Nat -> Heap -> Option (TV × Heap)
 | some (.cells c _), sz, ag, off, H => up (part sz ag off c) H
 | _, _, _, _, _ => none
def stC : Option AObj -> Nat -> Nat -> Nat -> List TV -> Heap -> Option (TV × Heap)
 | some (.cells c ag), sz, id, off, l, H => if l.length = sz /\ l.all TV.one = true /\ off + sz <= c.length then some (.undef, H.set id (.cells (put2 c off l) ag)) else none
 | _, _, _, _, _, _ => none
theorem ZL (sz : Nat) (ag : Bool) (id off : Nat) (H : Heap) : dkc pg R (.ld sz ag) [.ref id off] H = ldC H[id]? sz ag off H := by
 simp only [dkc, dk, ldC, up]
 cases H[id]? with
 | none => rfl
 | some o => cases o <;> rfl
theorem ZS (c : List TV) (ag' : Bool) (sz : Nat) (ag : Bool) (off : Nat) (H : Heap) : ldC (some (.cells c ag')) sz ag off H = up (part sz ag off c) H := rfl
theorem ZM (sz : Nat) (l : List TV) (bo : Bool) (H : Heap) (h : l.length = sz) : dkc pg R (.ld sz true) [.bp bo (.agg l)] H = some (.agg l, H) := by simp [dkc, dk, h]
theorem ZN (sz : Nat) (k : IntKind) (n : Int) (bo : Bool) (H : Heap) : dkc pg R (.ld sz false) [.bp bo (.i k n)] H = some (.i k n, H) := rfl
theorem ZO (sz : Nat) (x : Bool) (bo : Bool) (H : Heap) : dkc pg R (.ld sz false) [.bp bo (.b x)] H = some (.b x, H) := rfl
theorem ZP (sz : Nat) (id off : Nat) (l : List TV) (H : Heap) : dkc pg R (.st sz) [.ref id off, .agg l] H = stC H[id]? sz id off l H := by
 simp only [dkc, dk, stC, TV.cells]
 cases H[id]? with
 | none => rfl
 | some o => cases o <;> rfl
theorem ZT (c : List TV) (ag : Bool) (sz : Nat) (id off : Nat) (l : List TV) (H : Heap) : stC (some (.cells c ag)) sz id off l H = if l.length = sz /\ l.all TV.one = true /\ off + sz <= c.length then some (.undef, H.set id (.cells (put2 c off l) ag)) else none := rfl
theorem ZQ (id off : Nat) (k : IntKind) (n : Int) (H : Heap) : dkc pg R (.st 1) [.ref id off, .i k n] H = stC H[id]? 1 id off [.i k n] H := by
 simp only [dkc, dk, stC, TV.cells]
 cases H[id]? with
 | none => rfl
 | some o => cases o <;> rfl
theorem ZR (id off : Nat) (x : Bool) (H : Heap) : dkc pg R (.st 1) [.ref id off, .b x] H = stC H[id]? 1 id off [.b x] H := by
 simp only [dkc, dk, stC, TV.cells]
 cases H[id]? with
 | none => rfl
 | some o => cases o <;> rfl
theorem ZU (f nf : Nat) (vs : List TV) (H : Heap) (h : nf <= vs.length) : dkc pg R (.mkfn f nf) vs H = some (.fn f (vs.take nf) (vs.drop nf), H) := by simp [dkc, dk, h]
theorem ZV (lo hi mx : Bool) (sz : Nat) (ag : Bool) (x : TV) (vs : List TV) (H : Heap) : dkc pg R (.slc lo hi mx sz ag) (x :: vs) H = up (slcRun lo hi mx sz ag x vs) H := rfl
theorem ZW (lo hi mx : Bool) (n sz : Nat) (ag : Bool) (x : TV) (vs : List TV) (H : Heap) : dkc pg R (.slcA lo hi mx n sz ag) (x :: vs) H = up (slcARun lo hi mx n sz ag x vs H) H := rfl
theorem ZX (n sz : Nat) (ag : Bool) (id off : Nat) (k : IntKind) (i : Int) (H : Heap) (h0 : 0 <= i) (h : i.toNat < n) : dkc pg R (.ixA n sz ag) [.ref id off, .i k i] H = some (.ref id (off + i.toNat * sz), H) := by simp [dkc, dk, bound, h0, h]
theorem ZY (sz : Nat) (ag : Bool) (bo : Bool) (es : List TV) (k : IntKind) (i : Int) (H : Heap) (h0 : 0 <= i) : dkc pg R (.ixS sz ag) [.bs bo sz es, .i k i] H = up ((es[i.toNat]?).map fun e => .bp bo e) H := by
 simp only [dkc, dk, bound, h0, if_true, Option.bind_some, up]; cases es[i.toNat]? <;> rfl
theorem ZZ (sz : Nat) (ag ag' : Bool) (id off len : Nat) (cap : Option Nat) (k : IntKind) (i : Int) (H : Heap) (h0 : 0 <= i) (h : i.toNat < len) : dkc pg R (.ixS sz ag) [.sl id off sz ag' len cap, .i k i] H = some (.ref id (off + i.toNat * sz), H) := by simp [dkc, dk, bound, h0, h]
theorem Y0 (id o off sz : Nat) (ag : Bool) (H : Heap) : dkc pg R (.fadr off sz ag) [.ref id o] H = some (.ref id (o + off), H) := rfl
theorem Y1 (off sz : Nat) (ag : Bool) (l : List TV) (H : Heap) : dkc pg R (.fld off sz ag) [.agg l] H = up (part sz ag off l) H := rfl
theorem Y2 (n : Nat) (l : List TV) (H : Heap) : dkc pg R (.ext n) [.tup l] H = up l[n]? H := rfl
theorem Y3 (kd : Nat) (x : TV) (H : Heap) : dkc pg R (.len kd) [x] H = up ((lenK kd x H).map fun (n : Nat) => .i .i64 (n : Int)) H := by
 simp only [dkc, dk, up]; cases lenK kd x H <;> rfl
theorem Y4 (sz : Nat) (ag : Bool) (bytes : Nat) (s x : TV) (H : Heap) : dkc pg R (.app sz ag bytes) [s, x] H = appRun sz ag bytes s x H := rfl
theorem k_mn (k : IntKind) (x y : Int) (H : Heap) : dkc pg R .mnI [.i k x, .i k y] H = some (.i k (if y < x then y else x), H) := by simp [dkc, dk, foldI]
theorem k_mx (k : IntKind) (x y : Int) (H : Heap) : dkc pg R .mxI [.i k x, .i k y] H = some (.i k (if y > x then y else x), H) := by simp [dkc, dk, foldI]
theorem Y5 (id o : Nat) (H : Heap) : dkc pg R .nilck [.ref id o] H = some (.ref id o, H) := rfl
theorem Y6 (z : List TV) (ps : List (Nat × Nat)) (vs : List TV) (H : Heap) : dkc pg R (.build z ps) vs H = up ((fillP z ps vs).map .agg) H := by
 simp only [dkc, dk, up]; cases fillP z ps vs <;> rfl

theorem Y7 (k0 k : IntKind) (z a : Int) (H : Heap) : dkc pg R (.bsl false [.i k0 z] false 1 [0]) [.i k a] H = some (.sl H.length 0 1 false 1 (some 1), H ++ [.cells [.i k a] false]) := by
 simp [dkc, dk, fillP, repl, put2, TV.cells, TV.one]
theorem Y8 (k0 k k' : IntKind) (z a b : Int) (H : Heap) : dkc pg R (.bsl false [.i k0 z] false 2 [0, 1]) [.i k a, .i k' b] H = some (.sl H.length 0 1 false 2 (some 2), H ++ [.cells [.i k a, .i k' b] false]) := by
 simp [dkc, dk, fillP, repl, put2, TV.cells, TV.one, List.replicate]

theorem Y9 (k : IntKind) (x y : Int) : binI .add (.i k x) (.i k y) = some (wrapR k (x + y)) := by simp [binI]
theorem Ya (k : IntKind) (x y : Int) : binI .sub (.i k x) (.i k y) = some (wrapR k (x - y)) := by simp [binI]
theorem Yb (k : IntKind) (x y : Int) : binI .mul (.i k x) (.i k y) = some (wrapR k (x * y)) := by simp [binI]
theorem Yc (k : IntKind) (x y : Int) : binI .eql (.i k x) (.i k y) = some (.b (x == y)) := by simp [binI]
theorem Yd (k : IntKind) (x y : Int) : binI .neq (.i k x) (.i k y) = some (.b (x != y)) := by simp [binI]
theorem Ye (k : IntKind) (x y : Int) : binI .lss (.i k x) (.i k y) = some (.b (decide (x < y))) := by simp [binI]
theorem Yf (k : IntKind) (x y : Int) : binI .leq (.i k x) (.i k y) = some (.b (decide (x <= y))) := by simp [binI]
theorem Yg (k : IntKind) (x y : Int) : binI .gtr (.i k x) (.i k y) = some (.b (decide (y < x))) := by simp [binI]
theorem Yh (k : IntKind) (x y : Int) : binI .geq (.i k x) (.i k y) = some (.b (decide (y <= x))) := by simp [binI]
end

/-! snapshots -/
theorem sn_i (m : SM) (H : Heap) (k : IntKind) (n : Int) : snap m H 9 (.i k n) = some (.i k n) := by simp [snap]
theorem sn_b (m : SM) (H : Heap) (x : Bool) : snap m H 9 (.b x) = some (.b x) := by simp [snap]
theorem Yo (m : SM) (H : Heap) : snap m H 9 .nilsl = some .nilsl := by simp [snap]
theorem Yp (m : SM) (H : Heap) (k : IntKind) (n : Int) : snap m H 8 (.i k n) = some (.i k n) := by simp [snap]
theorem Yq (m : SM) (H : Heap) (x : Bool) : snap m H 8 (.b x) = some (.b x) := by simp [snap]
theorem Yr (m : SM) (H : Heap) : snap m H 8 .nilsl = some .nilsl := by simp [snap]
theorem Ys (m : SM) (H : Heap) (k : IntKind) (n : Int) : snap m H 7 (.i k n) = some (.i k n) := by simp [snap]
theorem Yt (m : SM) (H : Heap) (x : Bool) : snap m H 7 (.b x) = some (.b x) := by simp [snap]
def slB : Option AObj -> SM -> Heap -> Nat -> Nat -> Nat -> Bool -> Nat -> Option TV
 | some (.cells c _), m, H, f, off, sz, ag, len => if off + len * sz <= c.length /\ (ag = true \/ sz = 1) then (mapO (snap m H f) (elems sz ag len ((c.drop off).take (len * sz)))).map fun es => .bs (m == .borrow) sz es else none
 | _, _, _, _, _, _, _, _ => none
theorem Yu (m : SM) (hm : m ≠ .keep) (H : Heap) (id off sz : Nat) (ag : Bool) (len : Nat) (cap : Option Nat) : snap m H 9 (.sl id off sz ag len cap) = slB H[id]? m H 8 off sz ag len := by
 rw [snap]
 simp only [if_neg hm, slB]
 cases H[id]? with
 | none => rfl
 | some o => cases o <;> rfl
theorem Yv (m : SM) (hm : m ≠ .keep) (H : Heap) (id off sz : Nat) (ag : Bool) (len : Nat) (cap : Option Nat) : snap m H 8 (.sl id off sz ag len cap) = slB H[id]? m H 7 off sz ag len := by
 rw [snap]
 simp only [if_neg hm, slB]
 cases H[id]? with
 | none => rfl
 | some o => cases o <;> rfl
theorem Yw (c : List TV) (ag' : Bool) (m : SM) (H : Heap) (f off sz : Nat) (ag : Bool) (len : Nat) : slB (some (.cells c ag')) m H f off sz ag len = if off + len * sz <= c.length /\ (ag = true \/ sz = 1) then (mapO (snap m H f) (elems sz ag len ((c.drop off).take (len * sz)))).map fun es => .bs (m == .borrow) sz es else none := rfl
theorem Yx (m : SM) (H : Heap) (l : List TV) : snap m H 9 (.tup l) = (mapO (snap m H 8) l).map .tup := by rw [snap]
theorem Yy (m : SM) (H : Heap) (l : List TV) : snap m H 9 (.agg l) = (mapO (snap m H 8) l).map .agg := by rw [snap]
theorem Yz (m : SM) (H : Heap) (l : List TV) : snap m H 8 (.agg l) = (mapO (snap m H 7) l).map .agg := by rw [snap]

theorem setLast (H : Heap) (x y : AObj) : (H ++ [x]).set H.length y = H ++ [y] := by simp
theorem getLast (H : Heap) (x : AObj) : (H ++ [x])[H.length]? = some x := by simp

end Go.Dn

/-
 Slices in a call's own heap, by what they hold.
-/

namespace Go.Dn

structure El (α : Type) where
 sz : Nat
 ag : Bool
 enc : α -> List TV
 pos : 0 < sz
 len : ∀ a, (enc a).length = sz
 one : ∀ a, (enc a).all TV.one = true
 sc : ag = true \/ sz = 1

namespace El
variable {α : Type} (E : El α)

def val (a : α) : TV := if E.ag then .agg (E.enc a) else (E.enc a).headD .undef
def flat (l : List α) : List TV := l.flatMap E.enc

theorem flat_cons (x : α) (l : List α) : E.flat (x :: l) = E.enc x ++ E.flat l := rfl
theorem flat_append (l m : List α) : E.flat (l ++ m) = E.flat l ++ E.flat m := by simp [flat]
theorem flat_len (l : List α) : (E.flat l).length = l.length * E.sz := by
 induction l with
 | nil => simp [flat]
 | cons x l ih => rw [flat_cons, List.length_append, ih, E.len, List.length_cons, Nat.add_mul]; omega
theorem flat_all (l : List α) : (E.flat l).all TV.one = true := by
 induction l with
 | nil => rfl
 | cons x l ih => rw [flat_cons, List.all_append, ih, E.one]; rfl
theorem flat_take (l : List α) (k : Nat) : (E.flat l).take (k * E.sz) = E.flat (l.take k) := by
 induction l generalizing k with
 | nil => simp [flat]
 | cons x l ih =>
  cases k with
  | zero => simp [flat]
  | succ k =>
   rw [flat_cons, List.take_succ_cons, flat_cons, <- ih k, show (k + 1) * E.sz = (E.enc x).length + k * E.sz by rw [E.len, Nat.add_mul]; omega, List.take_length_add_append]
theorem flat_drop (l : List α) (k : Nat) : (E.flat l).drop (k * E.sz) = E.flat (l.drop k) := by
 induction l generalizing k with
 | nil => simp [flat]
 | cons x l ih =>
  cases k with
  | zero => simp
  | succ k =>
   rw [flat_cons, List.drop_succ_cons, <- ih k, show (k + 1) * E.sz = (E.enc x).length + k * E.sz by rw [E.len, Nat.add_mul]; omega, List.drop_length_add_append]
theorem flat_one (x : α) : E.flat [x] = E.enc x := by simp [flat]

theorem val_of_not (h : E.ag = false) (a : α) : E.enc a = [E.val a] := by
 have h1 : E.sz = 1 := by rcases E.sc with h2 | h2; rw [h] at h2; cases h2; exact h2
 have h2 := E.len a
 rw [h1] at h2
 match he : E.enc a, h2 with
 | [v], _ => simp [val, h, he]

theorem val_cells (a : α) : (E.val a).cells = E.enc a := by
 cases h : E.ag with
 | true => simp [val, h, TV.cells]
 | false =>
  have h1 := E.val_of_not h a
  have h2 := E.one a
  rw [h1] at h2 ⊢
  simp at h2
  cases hv : E.val a <;> simp_all [TV.cells, TV.one]

theorem flat_cells (l : List α) : (l.map E.val).flatMap TV.cells = E.flat l := by
 induction l with
 | nil => rfl
 | cons x l ih => rw [List.map_cons, List.flatMap_cons, ih, flat_cons, val_cells]

theorem elems_flat (l : List α) : elems E.sz E.ag l.length (E.flat l) = l.map E.val := by
 unfold elems
 cases h : E.ag with
 | true =>
  simp only [if_true]
  induction l with
  | nil => rfl
  | cons x l ih =>
   rw [List.length_cons, chunk, flat_cons, List.map_cons]
   have h1 : (E.enc x).length = E.sz := E.len x
   rw [show (E.enc x ++ E.flat l).take E.sz = E.enc x by rw [<- h1, List.take_left'] <;> rfl, show (E.enc x ++ E.flat l).drop E.sz = E.flat l by rw [<- h1, List.drop_left'] <;> rfl, ih]
   simp [val, h]
 | false =>
  simp only [Bool.false_eq_true, if_false]
  induction l with
  | nil => rfl
  | cons x l ih => rw [flat_cons, List.map_cons, ih, E.val_of_not h]; rfl

def View (H : Heap) (t : TV) (l : List α) : Prop :=
 (t = .nilsl /\ l = []) \/ (∃ b, t = .bs b E.sz (l.map E.val)) \/
 (∃ id off cap c ag, t = .sl id off E.sz E.ag l.length cap /\ l.length <= cap.getD l.length /\ H[id]? = some (.cells c ag) /\ off + l.length * E.sz <= c.length /\ (c.drop off).take (l.length * E.sz) = E.flat l)

def Own (H : Heap) (t : TV) (l : List α) : Prop :=
 (t = .nilsl /\ l = []) \/ (l ≠ [] /\ ∃ id ag c, t = .sl id 0 E.sz E.ag l.length none /\ H[id]? = some (.cells c ag) /\ l.length * E.sz <= c.length /\ c.take (l.length * E.sz) = E.flat l)

end El

def TV.idOf : TV -> Option Nat
 | .sl id .. => some id
 | _ => none

namespace El
variable {α : Type} {E : El α}

theorem Own.view {H : Heap} {t : TV} {l : List α} (h : E.Own H t l) : E.View H t l := by
 rcases h with h | ⟨_, id, ag, c, h1, h2, h3, h4⟩
 ·exact .inl h
 ·refine .inr (.inr ⟨id, 0, none, c, ag, h1, Nat.le_refl _, h2, by omega, ?_⟩)
  rw [List.drop_zero, h4]

theorem View.mono {H H' : Heap} {t : TV} {l : List α} (h : E.View H t l) (hf : ∀ id, t.idOf = some id -> H'[id]? = H[id]?) : E.View H' t l := by
 rcases h with h | h | ⟨id, off, cap, c, ag, rfl, h0, h1, h2, h3⟩
 ·exact .inl h
 ·exact .inr (.inl h)
 ·exact .inr (.inr ⟨id, off, cap, c, ag, rfl, h0, by rw [hf id rfl]; exact h1, h2, h3⟩)

theorem Own.mono {H H' : Heap} {t : TV} {l : List α} (h : E.Own H t l) (hf : ∀ id, t.idOf = some id -> H'[id]? = H[id]?) : E.Own H' t l := by
 rcases h with h | ⟨h0, id, ag, c, rfl, h1, h2⟩
 ·exact .inl h
 ·exact .inr ⟨h0, id, ag, c, rfl, by rw [hf id rfl]; exact h1, h2⟩

theorem Own.lt {H : Heap} {t : TV} {l : List α} (h : E.Own H t l) : ∀ id, t.idOf = some id -> id < H.length := by
 rcases h with ⟨rfl, _⟩ | ⟨_, id, ag, c, rfl, h1, _⟩
 ·intro id h; cases h
 ·intro i h
  cases h
  exact (List.getElem?_eq_some_iff.1 h1).1

theorem View.lt {H : Heap} {t : TV} {l : List α} (h : E.View H t l) : ∀ id, t.idOf = some id -> id < H.length := by
 rcases h with ⟨rfl, _⟩ | ⟨b, rfl⟩ | ⟨id, off, cap, c, ag, rfl, _, h1, _⟩
 ·intro id h; cases h
 ·intro id h; cases h
 ·intro i h
  cases h
  exact (List.getElem?_eq_some_iff.1 h1).1

theorem View.lenK {H : Heap} {t : TV} {l : List α} (h : E.View H t l) (H' : Heap) : lenK 0 t H' = some l.length := by
 rcases h with ⟨rfl, rfl⟩ | ⟨b, rfl⟩ | ⟨id, off, cap, c, ag, rfl, _⟩
 ·rfl
 ·simp [Dn.lenK]
 ·rfl

theorem View.lenOf {H : Heap} {t : TV} {l : List α} (h : E.View H t l) (H' : Heap) : lenOf t H' = some l.length := by
 rcases h with ⟨rfl, rfl⟩ | ⟨b, rfl⟩ | ⟨id, off, cap, c, ag, rfl, _⟩
 ·rfl
 ·simp [Dn.lenOf]
 ·rfl

theorem View.flatOf {H : Heap} {t : TV} {l : List α} (h : E.View H t l) : flatOf E.sz t H = some (E.flat l) := by
 rcases h with ⟨rfl, rfl⟩ | ⟨b, rfl⟩ | ⟨id, off, cap, c, ag, rfl, _, h1, h2, h3⟩
 ·rfl
 ·simp only [Dn.flatOf, if_true, E.flat_cells]
 ·simp only [Dn.flatOf, h1, h2, and_self, if_true, h3]

theorem app {H : Heap} {t x : TV} {l k : List α} {bytes : Nat} (h : E.Own H t l) (hx : E.View H x k) (hb : (l.length + k.length) * bytes <= 140737488355328) :
  ∃ t' H', appRun E.sz E.ag bytes t x H = some (t', H') /\ E.Own H' t' (l ++ k) /\ H.length <= H'.length /\ (∀ j, j < H.length -> t.idOf ≠ some j -> H'[j]? = H[j]?) /\ (t' = t \/ ∀ id, t'.idOf = some id -> H.length <= id) := by
 unfold appRun
 rw [hx.lenOf, Option.bind_some, hx.flatOf, Option.bind_some, h.view.lenOf, Option.bind_some, if_pos ⟨hb, E.flat_all k, E.flat_len k⟩]
 by_cases hk : k.length = 0
 ·have : k = [] := List.eq_nil_of_length_eq_zero hk
  subst this
  rcases h with ⟨rfl, rfl⟩ | ⟨h0, id, ag, c, rfl, h1, h2⟩
  ·exact ⟨_, _, rfl, .inl ⟨rfl, rfl⟩, Nat.le_refl _, fun _ _ _ => rfl, .inl rfl⟩
  ·exact ⟨_, _, rfl, by rw [List.append_nil]; exact .inr ⟨h0, id, ag, c, rfl, h1, h2⟩, Nat.le_refl _, fun _ _ _ => rfl, .inl rfl⟩
 ·have hk' : k ≠ [] := by rintro rfl; simp at hk
  rcases h with ⟨rfl, rfl⟩ | ⟨h0, id, ag, c, rfl, h1, h2, h3⟩
  ·simp only [if_neg hk, List.length_nil, Nat.zero_add]
   refine ⟨_, _, rfl, .inr ⟨by simpa using hk', H.length, false, E.flat k, by simp, by simp, by rw [E.flat_len]; simp, by rw [List.nil_append, <- E.flat_len, List.take_length]⟩, by simp, ?_, .inr fun id h => ?_⟩
   ·intro j hj _
    rw [List.getElem?_append_left hj]
   ·cases h; exact Nat.le_refl _
  ·have hid := (List.getElem?_eq_some_iff.1 h1).1
   simp only [if_neg hk, if_true, h1]
   rw [if_pos (by omega), List.drop_zero, h3]
   refine ⟨_, _, rfl, .inr ⟨by simp [h0], H.length, false, E.flat (l ++ k), by simp, ?_, by rw [E.flat_len]; omega, by rw [<- E.flat_len, List.take_length]⟩, by simp, ?_, .inr fun id h => ?_⟩
   ·rw [List.getElem?_append_right (by simp)]
    simp only [List.length_set, Nat.sub_self, List.getElem?_cons_zero, E.flat_append]
   ·intro j hj hne
    rw [List.getElem?_append_left (by simpa using hj), List.getElem?_set_ne]
    intro he
    exact hne (by rw [<- he]; rfl)
   ·cases h; exact Nat.le_refl _

theorem View.slc {H : Heap} {t : TV} {l : List α} (h : E.View H t l) {lo hi : Nat} (h1 : lo <= hi) (h2 : hi <= l.length) {bl bh : Bool} {vs : List TV}
  (hv : bounds3 bl bh false l.length vs = some (lo, hi, none)) : ∃ v, slcRun bl bh false E.sz E.ag t vs = some v /\ E.View H v ((l.take hi).drop lo) /\ (v = t \/ v.idOf = t.idOf) := by
 rcases h with ⟨rfl, rfl⟩ | ⟨b, rfl⟩ | ⟨id, off, cap, c, ag, rfl, h0, h3, h4, h5⟩
 ·simp only [List.length_nil] at hv h2
  have h0 : hi = 0 := by omega
  subst h0
  exact ⟨.nilsl, by simp [slcRun, hv], .inl ⟨rfl, by simp⟩, .inl rfl⟩
 ·refine ⟨.bs b E.sz (((l.map E.val).drop lo).take (hi - lo)), ?_, .inr (.inl ⟨b, ?_⟩), .inr rfl⟩
  ·simp only [slcRun, List.length_map, hv, Option.bind_some, true_and, Option.getD_none, Nat.le_refl, h2, and_self, if_true]
   rfl
  ·rw [List.map_drop, List.map_take, List.drop_take]
 ·have hl : ((l.take hi).drop lo).length = hi - lo := by simp [h2]
  refine ⟨.sl id (off + lo * E.sz) E.sz E.ag (hi - lo) (cap.map (· - lo)), ?_, .inr (.inr ⟨id, off + lo * E.sz, cap.map (· - lo), c, ag, by rw [hl], ?_, h3, ?_, ?_⟩), .inr rfl⟩
  ·have : hi <= cap.getD l.length := by omega
   simp only [slcRun, hv, Option.bind_some, true_and, Option.getD_none, Nat.le_refl, this, and_self, if_true]
   rfl
  ·rw [hl]
   cases cap with
   | none => simp
   | some k => simp only [Option.map_some, Option.getD_some] at h0 ⊢; omega
  ·rw [hl]
   have : (lo + (hi - lo)) * E.sz <= l.length * E.sz := Nat.mul_le_mul_right _ (by omega)
   rw [Nat.add_mul] at this
   omega
  ·rw [hl, <- List.drop_drop, <- E.flat_drop, <- E.flat_take, <- h5, List.take_take, Nat.min_eq_left (Nat.mul_le_mul_right _ h2), List.drop_take, Nat.sub_mul]

def At (E : El α) (H : Heap) (p : TV) (x : α) : Prop :=
 (∃ b, p = .bp b (E.val x)) \/ (∃ id o c ag, p = .ref id o /\ H[id]? = some (.cells c ag) /\ o + E.sz <= c.length /\ (c.drop o).take E.sz = E.enc x)

section
variable {pg : Pg} {R : Rec}

theorem View.ix {H : Heap} {t : TV} {l : List α} (h : E.View H t l) {i : Nat} {x : α} (hx : l[i]? = some x) (k : IntKind) : ∃ p, dkc pg R (.ixS E.sz E.ag) [t, .i k (i : Int)] H = some (p, H) /\ E.At H p x /\ (∀ id o, p = .ref id o -> t.idOf = some id) := by
 have hi := (List.getElem?_eq_some_iff.1 hx).1
 rcases h with ⟨rfl, rfl⟩ | ⟨b, rfl⟩ | ⟨id, off, cap, c, ag, rfl, h0, h3, h4, h5⟩
 ·simp at hx
 ·refine ⟨.bp b (E.val x), ?_, .inl ⟨b, rfl⟩, fun id o h => by cases h⟩
  rw [ZY _ _ _ _ _ _ _ (by omega)]
  simp [hx, up]
 ·refine ⟨.ref id (off + i * E.sz), ?_, .inr ⟨id, off + i * E.sz, c, ag, rfl, h3, ?_, ?_⟩, fun id' o h => by cases h; rfl⟩
  ·rw [ZZ _ _ _ _ _ _ _ _ _ _ (by omega) (by simpa using hi)]
   simp
  ·have : (i + 1) * E.sz <= l.length * E.sz := Nat.mul_le_mul_right _ (by omega)
   rw [Nat.add_mul] at this
   omega
  ·have h6 : ((c.drop off).take (l.length * E.sz)).drop (i * E.sz) = E.flat (l.drop i) := by rw [h5, E.flat_drop]
   rw [List.drop_take, List.drop_drop] at h6
   have h7 : l.drop i = x :: l.drop (i + 1) := by rw [List.drop_eq_getElem_cons hi]; congr 1; have := List.getElem?_eq_some_iff.1 hx; exact this.2
   rw [h7, E.flat_cons] at h6
   have h8 := congrArg (List.take E.sz) h6
   rw [List.take_take, Nat.min_eq_left (by
    rw [<- Nat.sub_mul]
    have : 1 * E.sz <= (l.length - i) * E.sz := Nat.mul_le_mul_right _ (by omega)
    omega)] at h8
   rw [h8, <- E.len x, List.take_left']
   rfl

theorem At.ld {H : Heap} {p : TV} {x : α} (h : E.At H p x) : dkc pg R (.ld E.sz E.ag) [p] H = some (E.val x, H) := by
 rcases h with ⟨b, rfl⟩ | ⟨id, o, c, ag, rfl, h1, h2, h3⟩
 ·cases hag : E.ag with
  | true => simp only [val, hag, if_true]; exact ZM _ _ _ _ (E.len x)
  | false =>
   have := E.one x
   rw [E.val_of_not hag] at this
   simp at this
   cases hv : E.val x <;> simp_all [dkc, dk, TV.one]
 ·rw [ZL, h1, ZS]
  unfold Dn.part
  cases hag : E.ag with
  | true => simp only [if_true, if_pos h2, h3, Zv, val, hag]
  | false =>
   have h1 : E.sz = 1 := by rcases E.sc with h2 | h2; rw [hag] at h2; cases h2; exact h2
   rw [h1, E.val_of_not hag] at h3
   have h4 : c[o]? = some (E.val x) := by
    have := congrArg (·[0]?) h3
    simpa using this
   have h5 : (E.val x).isAgg = false := by
    have := E.one x
    rw [E.val_of_not hag] at this
    simp at this
    cases hv : E.val x <;> simp_all [TV.one, TV.isAgg]
   simp [h4, h5, up]

theorem At.cell {H : Heap} {p : TV} {x : α} (h : E.At H p x) (hag : E.ag = true) {j : Nat} {v : TV} (hv : (E.enc x)[j]? = some v) (k : IntKind) : ∃ q, dkc pg R (.ixA E.sz 1 false) [p, .i k (j : Int)] H = some (q, H) /\ dkc pg R (.ld 1 false) [q] H = some (v, H) := by
 have hj := (List.getElem?_eq_some_iff.1 hv).1
 rw [E.len] at hj
 have hone : v.one = true := List.all_eq_true.1 (E.one x) v (List.mem_of_getElem? hv)
 have hisag : v.isAgg = false := by cases hv' : v <;> simp_all [TV.one, TV.isAgg]
 rcases h with ⟨b, rfl⟩ | ⟨id, o, c, ag, rfl, h1, h2, h3⟩
 ·refine ⟨.bp b v, ?_, ?_⟩
  ·simp [dkc, dk, bound, hj, val, hag, Dn.part, hv, hisag]
  ·cases v <;> simp_all [dkc, dk, TV.one]
 ·refine ⟨.ref id (o + j), ?_, ?_⟩
  ·simp [dkc, dk, bound, hj]
  ·have h4 : c[o + j]? = some v := by
    have := congrArg (·[j]?) h3
    simp only [List.getElem?_take, if_pos hj, List.getElem?_drop] at this
    rw [this, hv]
   rw [ZL, h1, ZS]
   simp [Dn.part, h4, hisag, up]
end

def lt (E : El α) (b : Bool) : List α -> TV
 | [] => .nilsl
 | x :: l => .bs b E.sz ((x :: l).map E.val)

theorem lt_ne {b : Bool} {l : List α} (h : l ≠ []) : E.lt b l = .bs b E.sz (l.map E.val) := by cases l <;> simp_all [lt]

theorem lt_view (b : Bool) (l : List α) (H : Heap) : E.View H (E.lt b l) l := by
 cases l with
 | nil => exact .inl ⟨rfl, rfl⟩
 | cons x l => exact .inr (.inl ⟨b, rfl⟩)

def Flat (E : El α) : Prop := ∀ m H a f, Dn.snap m H (f + 2) (E.val a) = some (E.val a)

theorem Flat.mapO (hs : E.Flat) (m : SM) (H : Heap) (f : Nat) : ∀ l : List α, mapO (Dn.snap m H (f + 2)) (l.map E.val) = some (l.map E.val)
 | [] => rfl
 | x :: l => by simp only [List.map_cons, Dn.mapO, hs m H x f, Flat.mapO hs m H f l, Option.bind_some, Option.map_some]

theorem View.snap {H : Heap} {t : TV} {l : List α} (h : E.View H t l) (hs : E.Flat) (hn : t ≠ .nilsl) : Dn.snap .borrow H 9 t = some (.bs true E.sz (l.map E.val)) := by
 rcases h with ⟨rfl, rfl⟩ | ⟨b, rfl⟩ | ⟨id, off, cap, c, ag, rfl, h0, h3, h4, h5⟩
 ·exact absurd rfl hn
 ·rw [show Dn.snap .borrow H 9 (.bs b E.sz (l.map E.val)) = (Dn.mapO (Dn.snap .borrow H 8) (l.map E.val)).map fun es' => .bs true E.sz es' by rw [Dn.snap]; rfl, hs.mapO .borrow H 6]
  rfl
 ·rw [Yu _ (by decide), h3, Yw, if_pos ⟨h4, E.sc⟩, h5, E.elems_flat, hs.mapO .borrow H 6]
  rfl

theorem Own.snap {H : Heap} {t : TV} {l : List α} (h : E.Own H t l) (hs : E.Flat) : Dn.snap .borrow H 9 t = some (E.lt true l) := by
 rcases h with ⟨rfl, rfl⟩ | ⟨h0, id, ag, c, rfl, h1⟩
 ·exact Yo _ _
 ·rw [(Own.view (.inr ⟨h0, id, ag, c, rfl, h1⟩) : E.View H _ l).snap hs (by simp), lt_ne h0]

theorem Own.fin {H : Heap} {t : TV} {l : List α} (h : E.Own H t l) (hs : E.Flat) : Dn.snap .fin H 9 t = some (E.lt false l) := by
 rcases h with ⟨rfl, rfl⟩ | ⟨h0, id, ag, c, rfl, h1, h2, h3⟩
 ·exact Yo _ _
 ·rw [Yu _ (by decide), h1, Yw, if_pos ⟨by omega, E.sc⟩, List.drop_zero, h3, E.elems_flat, hs.mapO .fin H 6, lt_ne h0]
  rfl

theorem lt_len (b : Bool) (l : List α) (H : Heap) : Dn.lenK 0 (E.lt b l) H = some l.length := (lt_view b l H).lenK H

end El

def elI : El Int where
 sz := 1
 ag := false
 enc n := [.i .i64 n]
 pos := by decide
 len _ := rfl
 one _ := rfl
 sc := .inr rfl

theorem elI_flat : elI.Flat := by
 intro m H a f
 show snap m H (f + 2) (.i .i64 a) = some (.i .i64 a)
 simp [snap]

def elB : El Bool where
 sz := 1
 ag := false
 enc n := [.b n]
 pos := by decide
 len _ := rfl
 one _ := rfl
 sc := .inr rfl

theorem elB_flat : elB.Flat := by
 intro m H a f
 show snap m H (f + 2) (.b a) = some (.b a)
 simp [snap]


theorem ownSet {pg : Pg} {R : Rec} {H : Heap} {t : TV} {l : List Int} (h : elI.Own H t l) {i : Nat} (hi : i < l.length) (v : Int) :
  ∃ p H', dkc pg R (.ixS 1 false) [t, .i .i64 (i : Int)] H = some (p, H) /\ dkc pg R (.st 1) [p, .i .i64 v] H = some (.undef, H') /\ elI.Own H' t (l.set i v) /\ H'.length = H.length /\ (∀ j, t.idOf ≠ some j -> H'[j]? = H[j]?) := by
 rcases h with ⟨rfl, rfl⟩ | ⟨h0, id, ag, c, rfl, h1, h2, h3⟩
 ·simp at hi
 ·have hid := (List.getElem?_eq_some_iff.1 h1).1
  have hsz : elI.sz = 1 := rfl
  rw [hsz] at h2 h3
  simp only [Nat.mul_one] at h2 h3
  have hfl : ∀ l : List Int, elI.flat l = l.map (fun n => .i .i64 n) := by
   intro l
   induction l with
   | nil => rfl
   | cons x l ih => rw [El.flat_cons, ih]; rfl
  refine ⟨.ref id i, H.set id (.cells (put2 c i [.i .i64 v]) ag), ?_, ?_, ?_, by simp, ?_⟩
  ·exact (ZZ 1 false false id 0 l.length none .i64 i H (by omega) (by simpa using hi)).trans (by simp)
  ·rw [ZQ, h1, ZT, if_pos ⟨rfl, rfl, by omega⟩]
  ·refine .inr ⟨by simpa using h0, id, ag, put2 c i [.i .i64 v], by rw [List.length_set], by simp [hid], ?_, ?_⟩
   ·simp [put2, hsz]; omega
   ·rw [List.length_set, hsz, Nat.mul_one, hfl]
    have hput : put2 c i [TV.i .i64 v] = c.set i (.i .i64 v) := by
     simp only [put2, List.length_singleton]
     rw [List.set_eq_take_append_cons_drop, if_pos (by omega)]
     simp
    rw [hput, List.take_set, h3, hfl, List.map_set]
  ·intro j hj
   rw [List.getElem?_set_ne]
   intro he
   exact hj (by rw [<- he]; rfl)

end Go.Dn

/-
 Ranges over functions: one round, as the yield function makes it.
-/

namespace Go.Dn

def Body (pg : Pg) (id : Nat) (L : ALoop) (args : List TV) (H : Heap) (x : Ex) (H' : Heap) : Prop :=
 ∃ e1 H2 e2 H3, den pg L.assign ((L.params.zip args).reverse ++ L.env) H = some ⟨.normal, e1, H2⟩ /\ H2[id]? = some (.loop L) /\
  den pg L.body e1 (H2.set id (.loop { L with st := .busy })) = some ⟨x, e2, H3⟩ /\ H3[id]? = some (.loop { L with st := .busy }) /\ H' = H3.set id (.loop L)

theorem yield_of {pg : Pg} {id : Nat} {L : ALoop} {args : List TV} {H H' : Heap} {x : Ex} (hr : L.st = .ready) (hp : L.pend = none) (hl : L.params.length = args.length) (hL : H[id]? = some (.loop L)) (hb : Body pg id L args H x H') :
  yieldRun (den pg) id args H = some (if x = .normal then (.b true, H') else (.b false, H'.set id (.loop { L with st := .done, pend := some x }))) := by
 obtain ⟨e1, H2, e2, H3, h1, h2, h3, h4, rfl⟩ := hb
 simp only [yieldRun, hL, hl, if_true, h1, Option.bind_some, h2, hr, h3, h4]
 cases x with
 | normal =>
  have : ({ L with st := .ready, pend := none } : ALoop) = L := by cases L; simp_all
  simp [this]
 | exit i => simp
 | ret => simp

theorem Body.there {pg : Pg} {id : Nat} {L : ALoop} {args : List TV} {H H' : Heap} {x : Ex} (hb : Body pg id L args H x H') : H'[id]? = some (.loop L) := by
 obtain ⟨e1, H2, e2, H3, h1, h2, h3, h4, rfl⟩ := hb
 have := (List.getElem?_eq_some_iff.1 h4).1
 simp [this]

theorem sh_yl {pg : Pg} {R : Rec} (id : Nat) (args : List TV) (H : Heap) : callRun pg R .sh (.yl id :: args) H = yieldRun R id args H := rfl

theorem go_rfunc {pg : Pg} {f : Opnd} {ps : List Nat} {as_ bd : DC} {ks : List Nat} {K : List Fr} {e : Env} {H H2 : Heap} {fv r : TV} {L : ALoop} (hf : evalO pg e f = some fv)
  (hc : callRun pg (den pg) .sh [fv, .yl H.length] (H ++ [.loop { env := keepE ks e, params := ps, assign := as_, body := bd, st := .ready, pend := none }]) = some (r, H2)) (hl : H2[H.length]? = some (.loop L)) (hs : L.st ≠ .busy) :
  go pg (den pg) (.c (.rfunc f ps as_ bd ks) :: K) .normal e H = go pg (den pg) K (L.pend.getD .normal) (keepE ks e) (H2.set H.length (.loop { L with st := .exhausted })) := by
 simp only [go, runC, hf, Option.bind_some, hc, hl, if_neg hs]

theorem keepE_keepE (ks : List Nat) (e : Env) : keepE ks (keepE ks e) = keepE ks e := by
 have : ∀ l : List Nat, (∀ s ∈ l, s ∈ ks) -> l.filterMap (fun s => (get (keepE ks e) s).map fun v => (s, v)) = l.filterMap (fun s => (get e s).map fun v => (s, v)) := by
  intro l
  induction l with
  | nil => intro _; rfl
  | cons s l ih =>
   intro h
   have hs : get (keepE ks e) s = get e s := get_keepE_mem (h s (by simp))
   simp only [List.filterMap_cons, hs]
   rw [ih fun x hx => h x (by simp [hx])]
 exact this ks fun _ h => h

theorem go_denK {pg : Pg} {c : DC} {ks : List Nat} {x : DC} (hc : c = .loop ks x) (k : List Fr) (e : Env) (H : Heap) : go pg (den pg) (.c c :: k) .normal e H = cont pg (den pg) (den pg c (keepE ks e) H) k := by
 subst hc
 rw [go_den, den_loop ks x e, den_loop ks x (keepE ks e), keepE_keepE]

end Go.Dn

/-
 Arrays behind slices of a fixed length: made whole, their elements and cells put into place.
-/

namespace Go.Dn
namespace El
variable {α : Type} {E : El α}

theorem flat_set (l : List α) {i : Nat} (hi : i < l.length) (x : α) : put2 (E.flat l) (i * E.sz) (E.enc x) = E.flat (l.set i x) := by
 rw [List.set_eq_take_append_cons_drop, if_pos hi, E.flat_append, E.flat_cons]
 unfold put2
 rw [E.flat_take, E.len x, show i * E.sz + E.sz = (i + 1) * E.sz by rw [Nat.add_mul]; omega, E.flat_drop, List.append_assoc]

section
variable {pg : Pg} {R : Rec}

theorem k_st (sz : Nat) (id off : Nat) (v : TV) (c : List TV) (ag : Bool) (H : Heap) (h : H[id]? = some (.cells c ag)) (h1 : v.cells.length = sz) (h2 : v.cells.all TV.one = true) (h3 : off + sz <= c.length) :
  dkc pg R (.st sz) [.ref id off, v] H = some (.undef, H.set id (.cells (put2 c off v.cells) ag)) := by
 simp only [dkc, dk, h, h1, h2, h3, true_and, if_true]

end

end El
end Go.Dn

/-
 Slices within slices: what they hold, by value.
-/

namespace Go.Dn

theorem snS_i (m : SM) (H : Heap) (f : Nat) (k : IntKind) (n : Int) : snap m H (f + 1) (.i k n) = some (.i k n) := by simp [snap]
theorem snS_nil (m : SM) (H : Heap) (f : Nat) : snap m H (f + 1) .nilsl = some .nilsl := by simp [snap]
theorem snS_bsB (H : Heap) (f : Nat) (b : Bool) (sz : Nat) (es : List TV) : snap .borrow H (f + 1) (.bs b sz es) = (mapO (snap .borrow H f) es).map fun es' => .bs true sz es' := by rw [snap]; rfl
theorem snS_sl (m : SM) (hm : m ≠ .keep) (H : Heap) (f : Nat) (id off sz : Nat) (ag : Bool) (len : Nat) (cap : Option Nat) : snap m H (f + 1) (.sl id off sz ag len cap) = slB H[id]? m H f off sz ag len := by
 rw [snap]
 simp only [if_neg hm, slB]
 cases H[id]? with
 | none => rfl
 | some o => cases o <;> rfl

theorem mapO_map {α β γ : Type} {g : β -> Option γ} {f : α -> β} {k : α -> γ} : ∀ {l : List α}, (∀ a ∈ l, g (f a) = some (k a)) -> mapO g (l.map f) = some (l.map k)
 | [], _ => rfl
 | x :: l, h => by
  rw [List.map_cons, mapO, h x (by simp), Option.bind_some, mapO_map (l := l) fun a ha => h a (by simp [ha])]
  rfl

theorem mapO_len {α β : Type} {g : α -> Option β} : ∀ {l : List α} {r : List β}, mapO g l = some r -> r.length = l.length
 | [], r, h => by simp [mapO] at h; simp [h]
 | x :: l, r, h => by
  simp only [mapO] at h
  cases h1 : g x with
  | none => simp [h1] at h
  | some y =>
   cases h2 : mapO g l with
   | none => simp [h1, h2] at h
   | some ys =>
    simp [h1, h2] at h
    subst h
    simp [mapO_len h2]

namespace El
variable {α β : Type} {E : El α} {E' : El β}

theorem Own.to {m : SM} (hm : m ≠ .keep) {t : TV} {l : List α} {l' : List β} {H : Heap} {f : Nat} (h : E.Own H t l) (hz : E'.sz = E.sz) (hv : mapO (Dn.snap m H f) (l.map E.val) = some (l'.map E'.val)) : Dn.snap m H (f + 1) t = some (E'.lt (m == .borrow) l') := by
 have hn := mapO_len hv
 simp only [List.length_map] at hn
 rcases h with ⟨rfl, rfl⟩ | ⟨h0, id, ag, c, rfl, h1, h2, h3⟩
 ·match l', hn with
  | [], _ => exact snS_nil _ _ _
 ·have h0' : l' ≠ [] := by rintro rfl; simp at hn; exact h0 (List.eq_nil_of_length_eq_zero hn.symm)
  rw [snS_sl _ hm, h1, Yw, if_pos ⟨by omega, E.sc⟩, List.drop_zero, h3, E.elems_flat, hv, lt_ne h0', hz]
  rfl

theorem lt_one (E : El α) (b : Bool) (l : List α) : (E.lt b l).one = true := by cases l <;> rfl
end El

def elR (b : Bool) : El (List Int) where
 sz := 1
 ag := false
 enc l := [elI.lt b l]
 pos := by decide
 len _ := rfl
 one l := by simp [El.lt_one]
 sc := .inr rfl

theorem elR_val (b : Bool) (l : List Int) : (elR b).val l = elI.lt b l := rfl

def elC : El {t : TV // t.one = true} where
 sz := 1
 ag := false
 enc t := [t.1]
 pos := by decide
 len _ := rfl
 one t := by simp [t.2]
 sc := .inr rfl
end Go.Dn

/-
 Pairs of slices of whole numbers as they come as arguments.
-/

namespace Go.Dn

def SV (t : TV) (l : List Int) : Prop := t = .nilsl /\ l = [] \/ ∃ b, t = .bs b 1 (l.map elI.val)

theorem SV.view {t : TV} {l : List Int} (h : SV t l) (H : Heap) : elI.View H t l := by
 rcases h with ⟨rfl, rfl⟩ | ⟨b, rfl⟩
 ·exact .inl ⟨rfl, rfl⟩
 ·exact .inr (.inl ⟨b, rfl⟩)
theorem SV.one {t : TV} {l : List Int} (h : SV t l) : t.one = true := by
 rcases h with ⟨rfl, rfl⟩ | ⟨b, rfl⟩ <;> rfl
theorem SV.noagg {t : TV} {l : List Int} (h : SV t l) : t.isAgg = false := by
 rcases h with ⟨rfl, rfl⟩ | ⟨b, rfl⟩ <;> rfl
theorem SV.snap {t : TV} {l : List Int} (h : SV t l) (H : Heap) (f : Nat) : ∃ t', Dn.snap .borrow H (f + 2) t = some t' /\ SV t' l := by
 rcases h with ⟨rfl, rfl⟩ | ⟨b, rfl⟩
 ·exact ⟨_, snS_nil _ _ _, .inl ⟨rfl, rfl⟩⟩
 ·exact ⟨_, by rw [snS_bsB, mapO_map (f := elI.val) (k := elI.val) (l := l) fun a _ => snS_i _ _ _ _ _, Option.map_some], .inr ⟨true, rfl⟩⟩
theorem SV.lt (b : Bool) (l : List Int) : SV (elI.lt b l) l := by
 cases l with
 | nil => exact .inl ⟨rfl, rfl⟩
 | cons x l => exact .inr ⟨b, rfl⟩

theorem k_ldV {pg : Pg} {R : Rec} (b : Bool) (a : TV) (ha : a.one = true) (H : Heap) : dkc pg R (.ld 1 false) [.bp b a] H = some (a, H) := by
 cases a <;> simp_all [dkc, dk, TV.one]

end Go.Dn

/-
 Pure calls known by what they answer; queues; small facts for all programs.
-/

namespace Go.Dn

def PFn (pg : Pg) (f : Nat) (xs : List TV) (r : TV) : Prop :=
 pg.S f xs = some r \/ pg.S f xs = none /\ ∃ r' H', bodyRun pg (den pg) f xs [] = some (r', H') /\ snap .fin H' 9 r' = some r

theorem PFn.call {pg : Pg} {f : Nat} {xs : List TV} {r : TV} (h : PFn pg f xs r) {ks : List Bool} {fs cs args : List TV} {H : Heap} (ha : snapArgs H ks (fs ++ args ++ cs) = some xs) :
  callRun pg (den pg) (.pu ks) (.fn f fs cs :: args) H = some (r, H) := by
 rw [List.append_assoc] at ha
 rcases h with h | ⟨h, r', H', h1, h2⟩
 ·simp [callRun, ha, h]
 ·simp [callRun, ha, h, h1, h2]

theorem PFn.of_go {pg : Pg} {f : Nat} {xs : List TV} {d : DFun} {x : Ex} {e : Env} {H' : Heap} {vs : List TV} {r : TV} (hS : pg.S f xs = none) (hd : pg.F f = some d) (hl : xs.length = d.np)
  (ho : go pg (den pg) [.c d.body] .normal (zipE xs 0) [] = some ⟨x, e, H'⟩) (hx : x = .ret \/ x = .normal) (hv : mapO (resRun e H') d.res = some vs) (hs : snap .fin H' 9 (tupR vs) = some r) : PFn pg f xs r := by
 refine .inr ⟨hS, _, _, bodyRun_of (o := ⟨x, e, H'⟩) hd hl (by rw [runC_go]; exact ho) ?_ hv, hs⟩
 intro id
 rcases hx with rfl | rfl <;> simp

theorem PFn.of1 {pg : Pg} {f : Nat} {xs : List TV} {d : DFun} {x : Ex} {e : Env} {H' : Heap} {r : TV} (hS : pg.S f xs = none) (hd : pg.F f = some d) (hl : xs.length = d.np)
  (ho : go pg (den pg) [.c d.body] .normal (zipE xs 0) [] = some ⟨x, e, H'⟩) (hx : x = .ret \/ x = .normal) (hv : mapO (resRun e H') d.res = some [r]) (hs : snap .fin H' 9 r = some r) : PFn pg f xs r :=
 .of_go hS hd hl ho hx hv hs

theorem PFn.of2 {pg : Pg} {f : Nat} {xs : List TV} {d : DFun} {x : Ex} {e : Env} {H' : Heap} {vs : List TV} (hS : pg.S f xs = none) (hd : pg.F f = some d) (hl : xs.length = d.np)
  (ho : go pg (den pg) [.c d.body] .normal (zipE xs 0) [] = some ⟨x, e, H'⟩) (hx : x = .ret \/ x = .normal) (hv : mapO (resRun e H') d.res = some vs) (h2 : 2 <= vs.length) (hs : mapO (snap .fin H' 8) vs = some vs) : PFn pg f xs (.tup vs) := by
 refine .of_go hS hd hl ho hx hv ?_
 match vs, h2 with
 | a :: b :: r, _ => simp only [tupR, Yx, hs, Option.map_some]

theorem body_of {pg : Pg} {f : Nat} {xs : List TV} {d : DFun} {x : Ex} {e : Env} {H H' : Heap} {r : TV} (hd : pg.F f = some d) (hl : xs.length = d.np)
  (ho : go pg (den pg) [.c d.body] .normal (zipE xs 0) H = some ⟨x, e, H'⟩) (hx : x = .ret \/ x = .normal) (hv : mapO (resRun e H') d.res = some [r]) : bodyRun pg (den pg) f xs H = some (r, H') := by
 refine bodyRun_of (vs := [r]) (o := ⟨x, e, H'⟩) hd hl (by rw [runC_go]; exact ho) ?_ hv
 intro id
 rcases hx with rfl | rfl <;> simp

theorem sh_fn {pg : Pg} {R : Rec} (f : Nat) (fs cs args : List TV) (H : Heap) : callRun pg R .sh (.fn f fs cs :: args) H = bodyRun pg R f (fs ++ args ++ cs) H := rfl

theorem b_rem (k : IntKind) (x y : Int) : binI .rem (.i k x) (.i k y) = if y = 0 then none else some (.i k (x.tmod y)) := by simp [binI]

theorem ixI {pg : Pg} {R : Rec} {H : Heap} {t : TV} {l : List Int} (h : elI.View H t l) {i : Nat} {x : Int} (hx : l[i]? = some x) : ∃ p, dkc pg R (.ixS 1 false) [t, .i .i64 (i : Int)] H = some (p, H) /\ dkc pg R (.ld 1 false) [p] H = some (.i .i64 x, H) := by
 obtain ⟨p, h1, h2, _⟩ := h.ix (pg := pg) (R := R) hx .i64
 exact ⟨p, h1, h2.ld⟩

theorem ld_box {pg : Pg} {R : Rec} {H : Heap} {id : Nat} {t : TV} (h : H[id]? = some (.cells [t] false)) (ht : t.isAgg = false) : dkc pg R (.ld 1 false) [.ref id 0] H = some (t, H) := by
 rw [ZL, h, ZS, part_one rfl ht]; rfl

theorem st_box {pg : Pg} {R : Rec} {H : Heap} {id : Nat} {u v : TV} {ag : Bool} (h : H[id]? = some (.cells [u] ag)) (hv : v.one = true) : dkc pg R (.st 1) [.ref id 0, v] H = some (.undef, H.set id (.cells [v] ag)) := by
 have hc : v.cells = [v] := by cases v <;> simp_all [TV.cells, TV.one]
 simp [dkc, dk, h, hc, hv, put2]

def Que (H : Heap) (t : TV) (l : List Int) : Prop :=
 ∃ id off cap c ag, t = .sl id off 1 false l.length cap /\ H[id]? = some (.cells c ag) /\ off + l.length <= c.length /\ (c.drop off).take l.length = l.map (fun n => .i .i64 n) /\ (∀ k, cap = some k -> l.length <= k /\ off + k <= c.length)

theorem elI_flat_map (l : List Int) : elI.flat l = l.map (fun n => .i .i64 n) := by
 induction l with
 | nil => rfl
 | cons x l ih => rw [El.flat_cons, ih]; rfl

theorem Que.view {H : Heap} {t : TV} {l : List Int} (h : Que H t l) : elI.View H t l := by
 obtain ⟨id, off, cap, c, ag, rfl, h1, h2, h3, h4⟩ := h
 refine .inr (.inr ⟨id, off, cap, c, ag, rfl, ?_, h1, ?_, ?_⟩)
 ·cases cap with
  | none => exact Nat.le_refl _
  | some k => exact (h4 k rfl).1
 ·show off + l.length * 1 <= c.length; omega
 ·rw [elI_flat_map, <- h3]; show List.take (l.length * 1) _ = _; rw [Nat.mul_one]

theorem Que.mono {H H' : Heap} {t : TV} {l : List Int} (h : Que H t l) (hf : ∀ id, t.idOf = some id -> H'[id]? = H[id]?) : Que H' t l := by
 obtain ⟨id, off, cap, c, ag, rfl, h1, h2⟩ := h
 exact ⟨id, off, cap, c, ag, rfl, by rw [hf id rfl]; exact h1, h2⟩

theorem Que.lt {H : Heap} {t : TV} {l : List Int} (h : Que H t l) : ∀ id, t.idOf = some id -> id < H.length := by
 obtain ⟨id, off, cap, c, ag, rfl, h1, h2⟩ := h
 intro i hi
 cases hi
 exact (List.getElem?_eq_some_iff.1 h1).1

theorem Que.one {H : Heap} {t : TV} {l : List Int} (h : Que H t l) : t.one = true /\ t.isAgg = false := by
 obtain ⟨id, off, cap, c, ag, rfl, h1, h2⟩ := h
 exact ⟨rfl, rfl⟩

theorem Que.tail {H : Heap} {t : TV} {x : Int} {l : List Int} (h : Que H t (x :: l)) : ∃ t', slcRun true false false 1 false t [.i .i64 1] = some t' /\ Que H t' l /\ t'.idOf = t.idOf := by
 obtain ⟨id, off, cap, c, ag, rfl, h1, h2, h3, h4⟩ := h
 have hb : bounds3 true false false (l.length + 1) [.i .i64 1] = some (1, l.length + 1, none) := by simp [bounds3, bound]
 have hcap : l.length + 1 <= cap.getD (l.length + 1) := by
  cases cap with
  | none => exact Nat.le_refl _
  | some k => have := (h4 k rfl).1; simpa using this
 refine ⟨.sl id (off + 1) 1 false l.length (cap.map (· - 1)), ?_, ⟨id, off + 1, cap.map (· - 1), c, ag, rfl, h1, ?_, ?_, ?_⟩, rfl⟩
 ·simp only [slcRun, hb, Option.bind_some, List.length_cons, true_and, Option.getD_none, Nat.le_refl, hcap, and_self, if_true]
  rfl
 ·simp only [List.length_cons] at h2; omega
 ·have h5 := congrArg (List.drop 1) h3
  simp only [List.length_cons, List.map_cons, List.drop_succ_cons, List.drop_zero] at h5
  rw [<- h5, List.drop_take, List.drop_drop]
  rfl
 ·intro k hk
  cases cap with
  | none => cases hk
  | some m =>
   have := h4 m rfl
   simp only [List.length_cons] at this
   simp at hk
   omega

theorem Que.app {H : Heap} {t : TV} {l : List Int} {x : Int} (h : Que H t l) (hl : l.length <= 1000000) :
  ∃ t' H', appRun 1 false 8 t (.sl H.length 0 1 false 1 (some 1)) (H ++ [.cells [.i .i64 x] false]) = some (t', H') /\ Que H' t' (l ++ [x]) /\ H.length <= H'.length /\ (∀ j, j < H.length -> t.idOf ≠ some j -> H'[j]? = H[j]?) /\ (t'.idOf = t.idOf \/ ∀ id, t'.idOf = some id -> H.length <= id) := by
 obtain ⟨id, off, cap, c, ag, rfl, h1, h2, h3, h4⟩ := h
 have hid := (List.getElem?_eq_some_iff.1 h1).1
 have h1' : (H ++ [AObj.cells [TV.i .i64 x] false])[id]? = some (.cells c ag) := by rw [List.getElem?_append_left hid]; exact h1
 have hgl := getLast H (.cells [.i .i64 x] false)
 have hb : (l.length + 1) * 8 <= 140737488355328 := by omega
 have e0 : ¬ (1 = 0) := by decide
 have hone : [TV.i IntKind.i64 x].all TV.one = true := rfl
 have hlen : (l ++ [x]).length = l.length + 1 := by simp
 have fresh : ∀ H2 : Heap, (∀ j, j < H.length -> j ≠ id -> H2[j]? = H[j]?) -> H2.length = H.length + 1 -> 
   Que (H2 ++ [.cells ((c.drop off).take (l.length * 1) ++ [.i .i64 x]) false]) (.sl (H ++ [AObj.cells [TV.i .i64 x] false]).length 0 1 false (l.length + 1) none) (l ++ [x]) /\ H.length <= (H2 ++ [AObj.cells ((c.drop off).take (l.length * 1) ++ [.i .i64 x]) false]).length /\
    (∀ j, j < H.length -> (TV.sl id off 1 false l.length cap).idOf ≠ some j -> (H2 ++ [AObj.cells ((c.drop off).take (l.length * 1) ++ [.i .i64 x]) false])[j]? = H[j]?) := by
  intro H2 hf hl2
  refine ⟨⟨_, 0, none, (c.drop off).take (l.length * 1) ++ [.i .i64 x], false, by rw [hlen], ?_, ?_, ?_, fun k hk => by cases hk⟩, by simp; omega, ?_⟩
  ·rw [List.getElem?_append_right (by simp; omega)]
   simp [hl2]
  ·rw [Nat.mul_one, h3]; simp
  ·rw [Nat.mul_one, h3, hlen, List.drop_zero, List.take_of_length_le (by simp)]
   simp
  ·intro j hj hne
   rw [List.getElem?_append_left (by omega)]
   exact hf j hj (fun he => hne (by rw [he]; rfl))
 cases cap with
 | none =>
  obtain ⟨q1, q2, q3⟩ := fresh ((H ++ [AObj.cells [TV.i .i64 x] false]).set id .dead) (fun j hj hne => by rw [List.getElem?_set_ne (by omega), List.getElem?_append_left hj]) (by simp)
  refine ⟨_, _, ?_, q1, q2, q3, .inr fun i hi => by cases hi; simp⟩
  simp only [appRun, lenOf, flatOf, Option.bind_some, hgl, List.length_singleton, Nat.zero_add, Nat.mul_one, Nat.le_refl, and_self, if_true, List.drop_zero, List.take_succ_cons, List.take_nil, List.take_zero, hone, hb, e0, if_false, h1', h2]
 | some k =>
  obtain ⟨k1, k2⟩ := h4 k rfl
  by_cases hk : l.length + 1 <= k
  ·have hroom : off + (l.length + 1) * 1 <= c.length := by omega
   refine ⟨.sl id off 1 false (l.length + 1) (some k), (H ++ [AObj.cells [TV.i .i64 x] false]).set id (AObj.cells (put2 c (off + l.length * 1) [.i .i64 x]) ag), by
    simp only [appRun, lenOf, flatOf, Option.bind_some, hgl, List.length_singleton, Nat.zero_add, Nat.mul_one, Nat.le_refl, and_self, if_true, List.drop_zero, List.take_succ_cons, List.take_nil, List.take_zero, hone, hb, e0, if_false, h1', h2, hk]
    rw [if_pos (by omega)], ⟨id, off, some k, put2 c (off + l.length * 1) [.i .i64 x], ag, by rw [hlen], ?_, ?_, ?_, ?_⟩, by simp, ?_, .inl rfl⟩
   ·rw [List.getElem?_set_self (by simp; omega)]
   ·simp [put2]; omega
   ·have hput : put2 c (off + l.length * 1) [TV.i .i64 x] = c.set (off + l.length) (.i .i64 x) := by
     simp only [put2, List.length_singleton, Nat.mul_one]
     rw [List.set_eq_take_append_cons_drop, if_pos (by omega)]
     simp
    rw [hput, hlen]
    apply List.ext_getElem?
    intro i
    have h3i := congrArg (·[i]?) h3
    simp only [List.getElem?_take, List.getElem?_drop] at h3i
    simp only [List.getElem?_take, List.getElem?_drop, List.map_append, List.map_cons, List.map_nil]
    by_cases hi : i < l.length
    ·rw [if_pos (by omega), List.getElem?_set_ne (by omega), List.getElem?_append_left (by simpa using hi), <- h3i, if_pos hi]
    ·by_cases hi2 : i = l.length
     ·subst hi2
      rw [if_pos (by omega), List.getElem?_set_self (by omega), List.getElem?_append_right (by simp)]
      simp
     ·rw [if_neg (by omega), List.getElem?_eq_none (by simp; omega)]
   ·intro m hm
    cases hm
    simp [put2]; omega
   ·intro j hj hne
    rw [List.getElem?_set_ne (fun he => hne (by rw [<- he]; rfl)), List.getElem?_append_left hj]
  ·obtain ⟨q1, q2, q3⟩ := fresh (H ++ [AObj.cells [TV.i .i64 x] false]) (fun j hj hne => by rw [List.getElem?_append_left hj]) (by simp)
   refine ⟨_, _, ?_, q1, q2, q3, .inr fun i hi => by cases hi; simp⟩
   simp only [appRun, lenOf, flatOf, Option.bind_some, hgl, List.length_singleton, Nat.zero_add, Nat.mul_one, Nat.le_refl, and_self, if_true, List.drop_zero, List.take_succ_cons, List.take_nil, List.take_zero, hone, hb, e0, if_false, h1', h2, hk]

theorem appI {H : Heap} {t x : TV} {l k : List Int} (h : elI.Own H t l) (hx : elI.View H x k) (hb : l.length + k.length <= 1000000) :
  ∃ t' H', appRun 1 false 8 t x H = some (t', H') /\ elI.Own H' t' (l ++ k) /\ H.length <= H'.length /\ (∀ j, j < H.length -> t.idOf ≠ some j -> H'[j]? = H[j]?) /\ (t' = t \/ ∀ id, t'.idOf = some id -> H.length <= id) := El.app (E := elI) (bytes := 8) h hx (by omega)

theorem one_view (H : Heap) (v : Int) : elI.View (H ++ [.cells [.i .i64 v] false]) (.sl H.length 0 1 false 1 (some 1)) [v] :=
 .inr (.inr ⟨H.length, 0, some 1, _, false, rfl, by simp, getLast _ _, by simp [elI], by simp [elI, El.flat]⟩)


end Go.Dn

/-
 Rows built one by one, and tables of them.
-/

namespace Go.Dn

structure RowInv (base : Nat) (H0 H : Heap) (R : TV) (l : List Int) : Prop where
 own : elI.Own H R l
 old : ∀ j, j < base -> H[j]? = H0[j]?
 new : ∀ id, R.idOf = some id -> base <= id
 len : base <= H.length

theorem RowInv.nil (H : Heap) : RowInv H.length H H .nilsl [] := ⟨.inl ⟨rfl, rfl⟩, fun _ _ => rfl, fun id h => (by cases h), Nat.le_refl _⟩

theorem RowInv.push {base : Nat} {H0 H : Heap} {R : TV} {l : List Int} (h : RowInv base H0 H R l) (v : Int) (hb : l.length + 1 <= 1000000) :
  ∃ R' H', appRun 1 false 8 R (.sl H.length 0 1 false 1 (some 1)) (H ++ [.cells [.i .i64 v] false]) = some (R', H') /\ RowInv base H0 H' R' (l ++ [v]) := by
 obtain ⟨R', H', h1, h2, h3, h4, h5⟩ := appI (h.own.mono (H' := H ++ [.cells [.i .i64 v] false]) fun id hid => by rw [List.getElem?_append_left (h.own.lt id hid)]) (one_view H v) (by simpa using hb)
 have hl := h.len
 refine ⟨R', H', h1, h2, fun j hj => ?_, fun id hid => ?_, by simp at h3; omega⟩
 ·rw [h4 j (by simp; omega) (fun he => by have := h.new j he; omega), List.getElem?_append_left (by omega)]
  exact h.old j hj
 ·rcases h5 with rfl | h5
  ·exact h.new id hid
  ·have := h5 id hid
   simp at this
   omega

def elRw {α : Type} (E : El α) (b : Bool) : El (List α) where
 sz := 1
 ag := false
 enc l := [E.lt b l]
 pos := by decide
 len _ := rfl
 one l := by simp [El.lt_one]
 sc := .inr rfl

def Nest {α : Type} (E : El α) (H : Heap) (out : TV) (ls : List (List α)) : Prop :=
 ∃ ts : List {t : TV // t.one = true}, elC.Own H out ts /\ ts.length = ls.length /\ ∀ (i : Nat) t l, ts[i]? = some t -> ls[i]? = some l -> E.Own H t.1 l /\ ∀ id, t.1.idOf = some id -> out.idOf ≠ some id

section
variable {α : Type} {E : El α}

theorem Nest.nil (H : Heap) : Nest E H .nilsl [] := ⟨[], .inl ⟨rfl, rfl⟩, rfl, fun i t l h => by simp at h⟩

theorem Nest.mono {H H' : Heap} {out : TV} {ls : List (List α)} (h : Nest E H out ls) (hf : ∀ id, id < H.length -> H'[id]? = H[id]?) : Nest E H' out ls := by
 obtain ⟨ts, h1, h2, h3⟩ := h
 refine ⟨ts, h1.mono fun id hid => hf id (h1.lt id hid), h2, fun i t l ht hl => ?_⟩
 obtain ⟨h4, h5⟩ := h3 i t l ht hl
 exact ⟨h4.mono fun id hid => hf id (h4.lt id hid), h5⟩

theorem Nest.lt {H : Heap} {out : TV} {ls : List (List α)} (h : Nest E H out ls) : ∀ id, out.idOf = some id -> id < H.length := by
 obtain ⟨ts, h1, _⟩ := h
 exact h1.lt

theorem Own_one {H : Heap} {t : TV} {l : List α} (h : E.Own H t l) : t.one = true /\ t.isAgg = false /\ t.cells = [t] := by
 rcases h with ⟨rfl, _⟩ | ⟨_, id, ag, c, rfl, _⟩ <;> exact ⟨rfl, rfl, rfl⟩

theorem k_bslC {pg : Pg} {R : Rec} {t : TV} (h1 : t.one = true) (h2 : t.cells = [t]) (H : Heap) : dkc pg R (.bsl false [.nilsl] false 1 [0]) [t] H = some (.sl H.length 0 1 false 1 (some 1), H ++ [.cells [t] false]) := by
 simp [dkc, dk, fillP, repl, put2, h1, h2]

theorem Nest.app {H : Heap} {out R : TV} {ls : List (List α)} {l : List α} (h : Nest E H out ls) (hR : E.Own H R l) (hd : ∀ id, R.idOf = some id -> out.idOf ≠ some id) (hb : ls.length + 1 <= 1000000) :
  ∃ out' H', appRun 1 false 24 out (.sl H.length 0 1 false 1 (some 1)) (H ++ [.cells [R] false]) = some (out', H') /\ Nest E H' out' (ls ++ [l]) /\ H.length <= H'.length /\
   (∀ j, j < H.length -> out.idOf ≠ some j -> H'[j]? = H[j]?) /\ (∀ id, out'.idOf = some id -> H.length <= id) := by
 obtain ⟨ts, h1, h2, h3⟩ := h
 let r : {t : TV // t.one = true} := ⟨R, (Own_one hR).1⟩
 have hview : elC.View (H ++ [.cells [R] false]) (.sl H.length 0 1 false 1 (some 1)) [r] :=
  .inr (.inr ⟨H.length, 0, some 1, _, false, rfl, by simp, getLast _ _, by simp [elC], by simp [elC, El.flat, r]⟩)
 obtain ⟨out', H', a1, a2, a3, a4, a5⟩ := El.app (E := elC) (bytes := 24) (h1.mono (H' := H ++ [.cells [R] false]) fun id hid => by rw [List.getElem?_append_left (h1.lt id hid)]) hview (by simp only [List.length_singleton]; omega)
 have hfr : ∀ j, j < H.length -> out.idOf ≠ some j -> H'[j]? = H[j]? := fun j hj hne => by
  rw [a4 j (by simp; omega) hne, List.getElem?_append_left hj]
 have hnew : ∀ id, out'.idOf = some id -> H.length <= id := by
  intro id hid
  rcases a5 with rfl | a5
  ·exfalso
   rcases a2 with ⟨_, a2⟩ | ⟨_, id', ag, c, e1, _⟩
   ·simp at a2
   ·rcases h1 with ⟨rfl, _⟩ | ⟨_, id2, ag2, c2, e2, _⟩
    ·cases e1
    ·rw [e2] at e1
     simp at e1
  ·have := a5 id hid
   simp at this
   omega
 refine ⟨out', H', a1, ⟨ts ++ [r], a2, by simp [h2], fun i t k ht hk => ?_⟩, by simp at a3; omega, hfr, hnew⟩
 have hne : ∀ id, t.1.idOf = some id -> id < H.length -> out'.idOf ≠ some id := fun id hid hlt he => by have := hnew id he; omega
 by_cases hi : i < ts.length
 ·rw [List.getElem?_append_left hi] at ht
  rw [List.getElem?_append_left (by omega)] at hk
  obtain ⟨h4, h5⟩ := h3 i t k ht hk
  exact ⟨h4.mono fun id hid => hfr id (h4.lt id hid) (h5 id hid), fun id hid => hne id hid (h4.lt id hid)⟩
 ·have hi' : i = ts.length := by
   have := (List.getElem?_eq_some_iff.1 ht).1
   simp at this
   omega
  subst hi'
  rw [List.getElem?_append_right (Nat.le_refl _), Nat.sub_self] at ht
  rw [h2, List.getElem?_append_right (Nat.le_refl _), Nat.sub_self] at hk
  simp at ht hk
  subst ht hk
  exact ⟨hR.mono fun id hid => hfr id (hR.lt id hid) (hd id hid), fun id hid => hne id hid (hR.lt id hid)⟩

theorem Nest.fin {H : Heap} {out : TV} {ls : List (List α)} (h : Nest E H out ls) (hs : E.Flat) (f : Nat) : Dn.snap .fin H (f + 4) out = some ((elRw E false).lt false ls) := by
 obtain ⟨ts, h1, h2, h3⟩ := h
 refine h1.to (m := .fin) (by decide) (E' := elRw E false) rfl ?_
 have : ∀ (ts : List {t : TV // t.one = true}) (ls : List (List α)), ts.length = ls.length -> (∀ (i : Nat) t l, ts[i]? = some t -> ls[i]? = some l -> E.Own H t.1 l) -> mapO (Dn.snap .fin H (f + 3)) (ts.map elC.val) = some (ls.map (elRw E false).val) := by
  intro ts
  induction ts with
  | nil => intro ls hl _; cases ls with
   | nil => rfl
   | cons x l => simp at hl
  | cons t ts ih =>
   intro ls hl hk
   cases ls with
   | nil => simp at hl
   | cons l ls =>
    have ht := hk 0 t l rfl rfl
    have hv : Dn.snap .fin H (f + 3) t.1 = some (E.lt false l) := ht.to (by decide) (E' := E) rfl (hs.mapO .fin H f l)
    rw [List.map_cons, mapO, show elC.val t = t.1 from rfl, hv, Option.bind_some, ih ls (by simpa using hl) fun i t l h1 h2 => hk (i + 1) t l h1 h2]
    rfl
 exact this ts ls h2 fun i t l ht hl => (h3 i t l ht hl).1
end

end Go.Dn

/-
 Tables of rows whose elements are put into place.
-/

namespace Go.Dn

section
variable {α : Type} {E : El α}

theorem Own_at {pg : Pg} {R : Rec} {H : Heap} {t : TV} {l : List α} (h : E.Own H t l) {k : Nat} {x : α} (hx : l[k]? = some x) :
  ∃ q, dkc pg R (.ixS E.sz E.ag) [t, .i .i64 (k : Int)] H = some (q, H) /\ dkc pg R (.ld E.sz E.ag) [q] H = some (E.val x, H) /\
   ∀ y, ∃ H', dkc pg R (.st E.sz) [q, E.val y] H = some (.undef, H') /\ E.Own H' t (l.set k y) /\ H'.length = H.length /\ ∀ j, t.idOf ≠ some j -> H'[j]? = H[j]? := by
 have hk := (List.getElem?_eq_some_iff.1 hx).1
 obtain ⟨p, h1, h2, h3⟩ := h.view.ix (pg := pg) (R := R) hx .i64
 refine ⟨p, h1, h2.ld, fun y => ?_⟩
 rcases h with ⟨rfl, rfl⟩ | ⟨h0, id, ag, c, rfl, hc, hl, hf⟩
 ·simp at hx
 ·have hroom : k * E.sz + E.sz <= l.length * E.sz := by
   have : (k + 1) * E.sz <= l.length * E.sz := Nat.mul_le_mul_right _ hk
   rw [Nat.add_mul] at this
   omega
  have hp : p = .ref id (k * E.sz) := by
   rw [ZZ _ _ _ _ _ _ _ _ _ _ (by omega) (by simpa using hk)] at h1
   simp at h1
   exact h1.symm
  subst hp
  have hid := (List.getElem?_eq_some_iff.1 hc).1
  refine ⟨_, El.k_st E.sz id (k * E.sz) (E.val y) c ag H hc (by rw [E.val_cells, E.len]) (by rw [E.val_cells, E.one]) (by omega), ?_, by simp, fun j hj => List.getElem?_set_ne (fun he => hj (by rw [<- he]; rfl))⟩
  rw [E.val_cells]
  refine .inr ⟨by intro hh; exact h0 (by simpa using hh), id, ag, put2 c (k * E.sz) (E.enc y), by rw [List.length_set], by simp [hid], ?_, ?_⟩
  ·rw [List.length_set]
   simp only [put2, List.length_append, List.length_take, List.length_drop, E.len]
   omega
  ·rw [List.length_set, <- El.flat_set l hk y, <- hf]
   unfold put2
   rw [E.len, List.append_assoc, List.append_assoc, List.take_append, List.take_take, List.length_take, Nat.min_eq_left (show k * E.sz <= c.length by omega), Nat.min_eq_right (show k * E.sz <= l.length * E.sz by omega), List.take_append, E.len, List.take_take, Nat.min_eq_left (show k * E.sz <= l.length * E.sz by omega)]
   congr 1
   rw [List.take_of_length_le (show (E.enc y).length <= l.length * E.sz - k * E.sz by rw [E.len]; omega), List.drop_take, show l.length * E.sz - k * E.sz - E.sz = l.length * E.sz - (k * E.sz + E.sz) by omega]

structure RowG (E : El α) (base : Nat) (H0 H : Heap) (R : TV) (l : List α) : Prop where
 own : E.Own H R l
 old : ∀ j, j < base -> H[j]? = H0[j]?
 new : ∀ id, R.idOf = some id -> base <= id
 len : base <= H.length

theorem RowG.nil (H : Heap) : RowG E H.length H H .nilsl [] := ⟨.inl ⟨rfl, rfl⟩, fun _ _ => rfl, fun id h => (by cases h), Nat.le_refl _⟩

theorem view1 (E : El α) (H : Heap) (x : α) : E.View (H ++ [.cells (E.enc x) false]) (.sl H.length 0 E.sz E.ag 1 (some 1)) [x] :=
 .inr (.inr ⟨H.length, 0, some 1, _, false, rfl, by simp, getLast _ _, by simp [E.len], by
  rw [List.drop_zero, E.flat_one, List.length_singleton, Nat.one_mul, <- E.len x, List.take_length]⟩)

theorem RowG.push {base : Nat} {H0 H : Heap} {R : TV} {l : List α} (h : RowG E base H0 H R l) (v : α) {bytes : Nat} (hb : (l.length + 1) * bytes <= 140737488355328) :
  ∃ R' H', appRun E.sz E.ag bytes R (.sl H.length 0 E.sz E.ag 1 (some 1)) (H ++ [.cells (E.enc v) false]) = some (R', H') /\ RowG E base H0 H' R' (l ++ [v]) := by
 obtain ⟨R', H', h1, h2, h3, h4, h5⟩ := El.app (E := E) (bytes := bytes) (h.own.mono (H' := H ++ [.cells (E.enc v) false]) fun id hid => by rw [List.getElem?_append_left (h.own.lt id hid)]) (view1 E H v) (by simpa using hb)
 have hl := h.len
 refine ⟨R', H', h1, h2, fun j hj => ?_, fun id hid => ?_, by simp at h3; omega⟩
 ·rw [h4 j (by simp; omega) (fun he => by have := h.new j he; omega), List.getElem?_append_left (by omega)]
  exact h.old j hj
 ·rcases h5 with rfl | h5
  ·exact h.new id hid
  ·have := h5 id hid
   simp at this
   omega

structure NestD (E : El α) (H : Heap) (out : TV) (ts : List {t : TV // t.one = true}) (ls : List (List α)) : Prop where
 own : elC.Own H out ts
 len : ts.length = ls.length
 row : ∀ (i : Nat) t l, ts[i]? = some t -> ls[i]? = some l -> E.Own H t.1 l /\ ∀ id, t.1.idOf = some id -> out.idOf ≠ some id
 dis : ∀ (i j : Nat) t u id, i ≠ j -> ts[i]? = some t -> ts[j]? = some u -> t.1.idOf = some id -> u.1.idOf ≠ some id

theorem NestD.nil (H : Heap) : NestD E H .nilsl [] [] := ⟨.inl ⟨rfl, rfl⟩, rfl, fun i t l h => (by simp at h), fun i j t u id _ h => (by simp at h)⟩

theorem NestD.nest {H : Heap} {out : TV} {ts : List {t : TV // t.one = true}} {ls : List (List α)} (h : NestD E H out ts ls) : Nest E H out ls := ⟨ts, h.own, h.len, h.row⟩

theorem NestD.mono {H H' : Heap} {out : TV} {ts : List {t : TV // t.one = true}} {ls : List (List α)} (h : NestD E H out ts ls) (hf : ∀ id, id < H.length -> H'[id]? = H[id]?) : NestD E H' out ts ls where
 own := h.own.mono fun id hid => hf id (h.own.lt id hid)
 len := h.len
 row i t l ht hl := by
  obtain ⟨h4, h5⟩ := h.row i t l ht hl
  exact ⟨h4.mono fun id hid => hf id (h4.lt id hid), h5⟩
 dis := h.dis

theorem NestD.lt {H : Heap} {out : TV} {ts : List {t : TV // t.one = true}} {ls : List (List α)} (h : NestD E H out ts ls) {i : Nat} {t : {t : TV // t.one = true}} (ht : ts[i]? = some t) {id : Nat} (hid : t.1.idOf = some id) : id < H.length := by
 have hi := (List.getElem?_eq_some_iff.1 ht).1
 have hl := h.len
 exact (h.row i t ls[i] ht (List.getElem?_eq_getElem (by omega))).1.lt id hid

theorem NestD.app {H : Heap} {out R : TV} {ts : List {t : TV // t.one = true}} {ls : List (List α)} {l : List α} (h : NestD E H out ts ls) (hR : E.Own H R l) (hd : ∀ id, R.idOf = some id -> out.idOf ≠ some id)
  (hr : ∀ (i : Nat) t id, ts[i]? = some t -> R.idOf = some id -> t.1.idOf ≠ some id) (hb : ls.length + 1 <= 1000000) :
  ∃ out' H' r, appRun 1 false 24 out (.sl H.length 0 1 false 1 (some 1)) (H ++ [.cells [R] false]) = some (out', H') /\ NestD E H' out' (ts ++ [r]) (ls ++ [l]) /\ H.length <= H'.length := by
 let r : {t : TV // t.one = true} := ⟨R, (Own_one hR).1⟩
 have h1 := h.own
 have h2 := h.len
 have hview : elC.View (H ++ [.cells [R] false]) (.sl H.length 0 1 false 1 (some 1)) [r] :=
  .inr (.inr ⟨H.length, 0, some 1, _, false, rfl, by simp, getLast _ _, by simp [elC], by simp [elC, El.flat, r]⟩)
 obtain ⟨out', H', a1, a2, a3, a4, a5⟩ := El.app (E := elC) (bytes := 24) (h1.mono (H' := H ++ [.cells [R] false]) fun id hid => by rw [List.getElem?_append_left (h1.lt id hid)]) hview (by simp only [List.length_singleton]; omega)
 have hfr : ∀ j, j < H.length -> out.idOf ≠ some j -> H'[j]? = H[j]? := fun j hj hne => by
  rw [a4 j (by simp; omega) hne, List.getElem?_append_left hj]
 have hnew : ∀ id, out'.idOf = some id -> H.length <= id := by
  intro id hid
  rcases a5 with rfl | a5
  ·exfalso
   rcases a2 with ⟨_, a2⟩ | ⟨_, id', ag, c, e1, _⟩
   ·simp at a2
   ·rcases h1 with ⟨rfl, _⟩ | ⟨_, id2, ag2, c2, e2, _⟩
    ·cases e1
    ·rw [e2] at e1
     simp at e1
  ·have := a5 id hid
   simp at this
   omega
 have hget : ∀ {i : Nat} {t : {t : TV // t.one = true}}, (ts ++ [r])[i]? = some t -> (i < ts.length /\ ts[i]? = some t) \/ (i = ts.length /\ t = r) := by
  intro i t ht
  by_cases hi : i < ts.length
  ·rw [List.getElem?_append_left hi] at ht; exact .inl ⟨hi, ht⟩
  ·have hi' : i = ts.length := by
    have := (List.getElem?_eq_some_iff.1 ht).1
    simp at this
    omega
   subst hi'
   rw [List.getElem?_append_right (Nat.le_refl _), Nat.sub_self] at ht
   simp at ht
   exact .inr ⟨rfl, ht.symm⟩
 refine ⟨out', H', r, a1, ⟨a2, by simp [h2], fun i t k ht hk => ?_, fun i j t u id hij ht hu hid => ?_⟩, by simp at a3; omega⟩
 ·have hne : ∀ id, id < H.length -> out'.idOf ≠ some id := fun id hlt he => by have := hnew id he; omega
  rcases hget ht with ⟨hi, ht⟩ | ⟨rfl, rfl⟩
  ·rw [List.getElem?_append_left (by omega)] at hk
   obtain ⟨h4, h5⟩ := h.row i t k ht hk
   exact ⟨h4.mono fun id hid => hfr id (h4.lt id hid) (h5 id hid), fun id hid => hne id (h4.lt id hid)⟩
  ·rw [h2, List.getElem?_append_right (Nat.le_refl _), Nat.sub_self] at hk
   simp at hk
   subst hk
   exact ⟨hR.mono fun id hid => hfr id (hR.lt id hid) (hd id hid), fun id hid => hne id (hR.lt id hid)⟩
 ·rcases hget ht with ⟨hi, ht⟩ | ⟨rfl, rfl⟩
  ·rcases hget hu with ⟨hj, hu⟩ | ⟨rfl, rfl⟩
   ·exact h.dis i j t u id hij ht hu hid
   ·exact fun he => hr i t id ht he hid
  ·rcases hget hu with ⟨hj, hu⟩ | ⟨rfl, rfl⟩
   ·exact hr j u id hu hid
   ·exact absurd rfl hij

theorem NestD.at {pg : Pg} {R : Rec} {H : Heap} {out : TV} {ts : List {t : TV // t.one = true}} {ls : List (List α)} (h : NestD E H out ts ls) {i : Nat} {l : List α} (hl : ls[i]? = some l) :
  ∃ p t, ts[i]? = some t /\ dkc pg R (.ixS 1 false) [out, .i .i64 (i : Int)] H = some (p, H) /\ dkc pg R (.ld 1 false) [p] H = some (t.1, H) /\
   ∀ (k : Nat) x, l[k]? = some x -> ∃ q, dkc pg R (.ixS E.sz E.ag) [t.1, .i .i64 (k : Int)] H = some (q, H) /\ dkc pg R (.ld E.sz E.ag) [q] H = some (E.val x, H) /\
    ∀ y, ∃ H', dkc pg R (.st E.sz) [q, E.val y] H = some (.undef, H') /\ NestD E H' out ts (ls.set i (l.set k y)) /\ H'.length = H.length := by
 have hi := (List.getElem?_eq_some_iff.1 hl).1
 have hlen := h.len
 have ht : ts[i]? = some ts[i] := List.getElem?_eq_getElem (by omega)
 obtain ⟨p, h1, h2, _⟩ := h.own.view.ix (pg := pg) (R := R) ht .i64
 refine ⟨p, ts[i], ht, h1, h2.ld, fun k x hx => ?_⟩
 obtain ⟨hrow, hne⟩ := h.row i _ l ht hl
 obtain ⟨q, a1, a2, a3⟩ := Own_at (pg := pg) (R := R) hrow hx
 refine ⟨q, a1, a2, fun y => ?_⟩
 obtain ⟨H', b1, b2, b3, b4⟩ := a3 y
 refine ⟨H', b1, ⟨?_, by simp [hlen], fun j u m hu hm => ?_, h.dis⟩, b3⟩
 ·refine h.own.mono fun id hid => b4 id (fun he => hne id he hid)
 ·by_cases hj : j = i
  ·subst hj
   rw [ht] at hu
   cases hu
   rw [List.getElem?_set_self hi] at hm
   cases hm
   exact ⟨b2, hne⟩
  ·rw [List.getElem?_set_ne (by omega)] at hm
   obtain ⟨h4, h5⟩ := h.row j u m hu hm
   exact ⟨h4.mono fun id hid => b4 id (fun he => h.dis i j _ u id (by omega) ht hu he hid), h5⟩
end

theorem k_bslB1 {pg : Pg} {R : Rec} (z v : Bool) (H : Heap) : dkc pg R (.bsl false [.b z] false 1 [0]) [.b v] H = some (.sl H.length 0 1 false 1 (some 1), H ++ [.cells [.b v] false]) := by
 simp [dkc, dk, fillP, repl, put2, TV.cells, TV.one]

end Go.Dn

/-
 Tables of rows, all in memory from a place on.
-/

namespace Go.Dn

section
variable {α : Type} {E : El α}

theorem NestD.app2 {H : Heap} {out R : TV} {ts : List {t : TV // t.one = true}} {ls : List (List α)} {l : List α} (h : NestD E H out ts ls) (hR : E.Own H R l) (hd : ∀ id, R.idOf = some id -> out.idOf ≠ some id)
  (hr : ∀ (i : Nat) t id, ts[i]? = some t -> R.idOf = some id -> t.1.idOf ≠ some id) (hb : ls.length + 1 <= 1000000) :
  ∃ out' H' r, appRun 1 false 24 out (.sl H.length 0 1 false 1 (some 1)) (H ++ [.cells [R] false]) = some (out', H') /\ NestD E H' out' (ts ++ [r]) (ls ++ [l]) /\ H.length <= H'.length /\ (∀ j, j < H.length -> out.idOf ≠ some j -> H'[j]? = H[j]?) /\ (∀ id, out'.idOf = some id -> H.length <= id) /\ r.1 = R := by
 let r : {t : TV // t.one = true} := ⟨R, (Own_one hR).1⟩
 have h1 := h.own
 have h2 := h.len
 have hview : elC.View (H ++ [.cells [R] false]) (.sl H.length 0 1 false 1 (some 1)) [r] :=
  .inr (.inr ⟨H.length, 0, some 1, _, false, rfl, by simp, getLast _ _, by simp [elC], by simp [elC, El.flat, r]⟩)
 obtain ⟨out', H', a1, a2, a3, a4, a5⟩ := El.app (E := elC) (bytes := 24) (h1.mono (H' := H ++ [.cells [R] false]) fun id hid => by rw [List.getElem?_append_left (h1.lt id hid)]) hview (by simp only [List.length_singleton]; omega)
 have hfr : ∀ j, j < H.length -> out.idOf ≠ some j -> H'[j]? = H[j]? := fun j hj hne => by
  rw [a4 j (by simp; omega) hne, List.getElem?_append_left hj]
 have hnew : ∀ id, out'.idOf = some id -> H.length <= id := by
  intro id hid
  rcases a5 with rfl | a5
  ·exfalso
   rcases a2 with ⟨_, a2⟩ | ⟨_, id', ag, c, e1, _⟩
   ·simp at a2
   ·rcases h1 with ⟨rfl, _⟩ | ⟨_, id2, ag2, c2, e2, _⟩
    ·cases e1
    ·rw [e2] at e1
     simp at e1
  ·have := a5 id hid
   simp at this
   omega
 have hget : ∀ {i : Nat} {t : {t : TV // t.one = true}}, (ts ++ [r])[i]? = some t -> (i < ts.length /\ ts[i]? = some t) \/ (i = ts.length /\ t = r) := by
  intro i t ht
  by_cases hi : i < ts.length
  ·rw [List.getElem?_append_left hi] at ht; exact .inl ⟨hi, ht⟩
  ·have hi' : i = ts.length := by
    have := (List.getElem?_eq_some_iff.1 ht).1
    simp at this
    omega
   subst hi'
   rw [List.getElem?_append_right (Nat.le_refl _), Nat.sub_self] at ht
   simp at ht
   exact .inr ⟨rfl, ht.symm⟩
 refine ⟨out', H', r, a1, ⟨a2, by simp [h2], fun i t k ht hk => ?_, fun i j t u id hij ht hu hid => ?_⟩, by simp at a3; omega, hfr, hnew, rfl⟩
 ·have hne : ∀ id, id < H.length -> out'.idOf ≠ some id := fun id hlt he => by have := hnew id he; omega
  rcases hget ht with ⟨hi, ht⟩ | ⟨rfl, rfl⟩
  ·rw [List.getElem?_append_left (by omega)] at hk
   obtain ⟨h4, h5⟩ := h.row i t k ht hk
   exact ⟨h4.mono fun id hid => hfr id (h4.lt id hid) (h5 id hid), fun id hid => hne id (h4.lt id hid)⟩
  ·rw [h2, List.getElem?_append_right (Nat.le_refl _), Nat.sub_self] at hk
   simp at hk
   subst hk
   exact ⟨hR.mono fun id hid => hfr id (hR.lt id hid) (hd id hid), fun id hid => hne id (hR.lt id hid)⟩
 ·rcases hget ht with ⟨hi, ht⟩ | ⟨rfl, rfl⟩
  ·rcases hget hu with ⟨hj, hu⟩ | ⟨rfl, rfl⟩
   ·exact h.dis i j t u id hij ht hu hid
   ·exact fun he => hr i t id ht he hid
  ·rcases hget hu with ⟨hj, hu⟩ | ⟨rfl, rfl⟩
   ·exact hr j u id hu hid
   ·exact absurd rfl hij

theorem NestD.at2 {pg : Pg} {R : Rec} {H : Heap} {out : TV} {ts : List {t : TV // t.one = true}} {ls : List (List α)} (h : NestD E H out ts ls) {i : Nat} {l : List α} (hl : ls[i]? = some l) :
  ∃ p t, ts[i]? = some t /\ dkc pg R (.ixS 1 false) [out, .i .i64 (i : Int)] H = some (p, H) /\ dkc pg R (.ld 1 false) [p] H = some (t.1, H) /\
   ∀ (k : Nat) x, l[k]? = some x -> ∃ q, dkc pg R (.ixS E.sz E.ag) [t.1, .i .i64 (k : Int)] H = some (q, H) /\ dkc pg R (.ld E.sz E.ag) [q] H = some (E.val x, H) /\
    ∀ y, ∃ H', dkc pg R (.st E.sz) [q, E.val y] H = some (.undef, H') /\ NestD E H' out ts (ls.set i (l.set k y)) /\ H'.length = H.length /\ ∀ j, t.1.idOf ≠ some j -> H'[j]? = H[j]? := by
 have hi := (List.getElem?_eq_some_iff.1 hl).1
 have hlen := h.len
 have ht : ts[i]? = some ts[i] := List.getElem?_eq_getElem (by omega)
 obtain ⟨p, h1, h2, _⟩ := h.own.view.ix (pg := pg) (R := R) ht .i64
 refine ⟨p, ts[i], ht, h1, h2.ld, fun k x hx => ?_⟩
 obtain ⟨hrow, hne⟩ := h.row i _ l ht hl
 obtain ⟨q, a1, a2, a3⟩ := Own_at (pg := pg) (R := R) hrow hx
 refine ⟨q, a1, a2, fun y => ?_⟩
 obtain ⟨H', b1, b2, b3, b4⟩ := a3 y
 refine ⟨H', b1, ⟨?_, by simp [hlen], fun j u m hu hm => ?_, h.dis⟩, b3, b4⟩
 ·refine h.own.mono fun id hid => b4 id (fun he => hne id he hid)
 ·by_cases hj : j = i
  ·subst hj
   rw [ht] at hu
   cases hu
   rw [List.getElem?_set_self hi] at hm
   cases hm
   exact ⟨b2, hne⟩
  ·rw [List.getElem?_set_ne (by omega)] at hm
   obtain ⟨h4, h5⟩ := h.row j u m hu hm
   exact ⟨h4.mono fun id hid => b4 id (fun he => h.dis i j _ u id (by omega) ht hu he hid), h5⟩

end

end Go.Dn

/-
 Rules for runs, by rewriting without side proofs of their own (for simp with a discharger).
-/

namespace Go.Dn

def kp : Option TV -> Nat -> Env -> Env
 | some v, k, e => (k, v) :: e
 | none, _, e => e
theorem Yk (v : TV) (k : Nat) (e : Env) : kp (some v) k e = (k, v) :: e := rfl
theorem Yl (k : Nat) (e : Env) : kp none k e = e := rfl
theorem Yi (e : Env) : keepE [] e = [] := rfl
theorem Yj (k : Nat) (ks : List Nat) (e : Env) : keepE (k :: ks) e = kp (get e k) k (keepE ks e) := by
 unfold keepE
 rw [List.filterMap_cons]
 cases get e k <;> rfl

theorem Ym {pg : Pg} {R : Rec} (i o : Nat) (H : Heap) : dkc pg R (.box false) [.ref i o] H = some (.ref H.length 0, H ++ [.cells [.ref i o] false]) := rfl
theorem at0 {α : Type} (a : α) (l : List α) : (a :: l)[0]? = some a := rfl
theorem at1 {α : Type} (a b : α) (l : List α) : (a :: b :: l)[1]? = some b := rfl
theorem at2 {α : Type} (a b c : α) (l : List α) : (a :: b :: c :: l)[2]? = some c := rfl
theorem at3 {α : Type} (a b c d : α) (l : List α) : (a :: b :: c :: d :: l)[3]? = some d := rfl
theorem at4 {α : Type} (a b c d e : α) (l : List α) : (a :: b :: c :: d :: e :: l)[4]? = some e := rfl
theorem dT {p : Prop} [Decidable p] (h : p) : decide p = true := decide_eq_true h
theorem dF {p : Prop} [Decidable p] (h : ¬ p) : decide p = false := decide_eq_false h
theorem beqF {x y : Int} (h : x ≠ y) : (x == y) = false := by simpa using h
end Go.Dn

/-
 Rules for runs: maps by rising keys, loops over them.
-/

namespace Go.Dn

section
variable {pg : Pg} {R : Rec}

theorem go_seqr (x y : DC) (k : List Fr) (e : Env) (H : Heap) : go pg R (.c (.seqr x y) :: k) .normal e H = go pg R (.c x :: .c y :: k) .normal e H := by
 rw [<- Zb]; rfl

def ckS (ck : Nat) (n : Int) (es : List (Int × TV)) : Nat := if (lookS n es).isSome then ck else ck + 1
def lkC : Option AObj -> TV -> Bool -> Int -> Heap -> Option (TV × Heap)
 | some (.mapS es _), z, ok, n, H => some (if ok = true then .tup [(lookS n es).getD z, .b (lookS n es).isSome] else (lookS n es).getD z, H)
 | _, _, _, _, _ => none
def seC : Option AObj -> Nat -> Int -> TV -> Heap -> Option (TV × Heap)
 | some (.mapS es ck), id, n, v, H => some (.undef, H.set id (.mapS (insS n v es) (ckS ck n es)))
 | _, _, _, _, _ => none
def rgC : Option AObj -> Nat -> Heap -> Option (TV × Heap)
 | some (.mapS _ ck), id, H => some (.ref H.length 0, H ++ [.iter id ck])
 | _, _, _ => none

theorem k_mkS (H : Heap) : dkc pg R .mkS [] H = some (.mp H.length, H ++ [.mapS [] 0]) := rfl
theorem k_lkS (z : TV) (ok : Bool) (id : Nat) (n : Int) (H : Heap) : dkc pg R (.lkS z ok) [.mp id, .i .i64 n] H = lkC H[id]? z ok n H := by
 simp only [dkc, dk, lkC]
 cases H[id]? with
 | none => rfl
 | some o =>
  cases o <;> try rfl
  simp only
  rename_i es ck
  cases lookS n es <;> simp
theorem lkC_some (es : List (Int × TV)) (ck : Nat) (z : TV) (ok : Bool) (n : Int) (H : Heap) : lkC (some (.mapS es ck)) z ok n H = some (if ok = true then .tup [(lookS n es).getD z, .b (lookS n es).isSome] else (lookS n es).getD z, H) := rfl
theorem k_setS (id : Nat) (n : Int) (v : TV) (H : Heap) : dkc pg R .setS [.mp id, .i .i64 n, v] H = seC H[id]? id n v H := by
 simp only [dkc, dk, seC, ckS]
 cases H[id]? with
 | none => rfl
 | some o => cases o <;> rfl
theorem seC_some (es : List (Int × TV)) (ck : Nat) (id : Nat) (n : Int) (v : TV) (H : Heap) : seC (some (.mapS es ck)) id n v H = some (.undef, H.set id (.mapS (insS n v es) (ckS ck n es))) := rfl
theorem k_rngS (id : Nat) (H : Heap) : dkc pg R .rngS [.mp id] H = rgC H[id]? id H := by
 simp only [dkc, dk, rgC]
 cases H[id]? with
 | none => rfl
 | some o => cases o <;> rfl
theorem mround_go (nxt : Nat) (ops : List DOper) (kas : List Nat) (y : DC) (e : Env) (H : Heap) : mround pg R nxt ops kas (runC pg R y) e H = go pg R [.ops ops kas, .c y, .blk nxt] .normal e H := by
 simp only [mround, go]
 cases opsRun pg R ops e H with
 | none => rfl
 | some p =>
  simp only [Option.bind_some]
  cases runC pg R y (keepE kas p.1) p.2 with
  | none => rfl
  | some o =>
   simp only [Option.map_some, Option.bind_some]
   obtain ⟨x, e', H'⟩ := o
   by_cases h : x = .exit nxt <;> simp [h]

noncomputable abbrev mf (pg : Pg) (R : Rec) (it id nxt pair : Nat) (ops : List DOper) (kas : List Nat) (y : DC) (ks : List Nat) := mfold (mround pg R nxt ops kas (runC pg R y)) it id pair ks

theorem mf_nil {it id nxt pair : Nat} {ops : List DOper} {kas : List Nat} {y : DC} {ks : List Nat} (e : Env) (H : Heap) : mf pg R it id nxt pair ops kas y ks [] e H = some (e, H) := rfl

theorem mf_cons {it id nxt pair : Nat} {ops : List DOper} {kas : List Nat} {y : DC} {ks : List Nat} {k : Int} {v : TV} {l : List (Int × TV)} {e e1 : Env} {H H1 : Heap}
  (h : go pg R [.ops ops kas, .c y, .blk nxt] .normal ((pair, .tup [.i .i64 k, v]) :: e) H = some ⟨.normal, e1, H1⟩) (hi : get e1 it = some (.ref id 0)) :
  mf pg R it id nxt pair ops kas y ks ((k, v) :: l) e H = mf pg R it id nxt pair ops kas y ks l (keepE ks e1) H1 := by
 show mfold _ _ _ _ _ _ _ _ = _
 simp only [mfold, mround_go, h, Option.bind_some]
 rw [if_pos ⟨trivial, by rw [hi]; simp [isIt]⟩]

theorem permOk_all {α β : Type} {f : List α -> Option β} {l : List α} (h : ∀ p : List α, p.Perm l -> f p = f l) : permOk f l = true := by
 unfold permOk
 split
 ·rfl
 ·exact @decide_eq_true _ (Classical.propDecidable _) h

theorem runC_mrange {it nx mo ou nxt pair : Nat} {ops : List DOper} {kas : List Nat} {y z : DC} {ks : List Nat} {e e' : Env} {H H' : Heap} {id mid ck : Nat} {es : List (Int × TV)} (h1 : get e it = some (.ref id 0)) (h2 : H[id]? = some (.iter mid ck)) (h3 : H[mid]? = some (.mapS es ck))
  (hf : ∀ p : List (Int × TV), p.Perm es -> mf pg R it id nxt pair ops kas y ks p (keepE ks e) ((H.set id .dead).set mid .dead) = some (e', H')) :
  runC pg R (.mrange it nx mo ou nxt pair ops kas y ks z) e H = runC pg R z e' (H'.set mid (.mapS es ck)) := by
 simp only [runC, h1, h2, h3, if_true]
 have ht : ∀ p : List (Int × TV), p.Perm es -> mthen (mround pg R nxt ops kas (runC pg R y)) (runC pg R z) it id pair ks mid es ck (keepE ks e) ((H.set id .dead).set mid .dead) p = runC pg R z e' (H'.set mid (.mapS es ck)) := by
  intro p hp
  have := hf p hp
  simp only [mf] at this
  simp only [mthen, this, Option.bind_some]
 rw [if_pos (permOk_all fun p hp => (ht p hp).trans (ht es (List.Perm.refl _)).symm), ht es (List.Perm.refl _)]

theorem go_mrange {it nx mo ou nxt pair : Nat} {ops : List DOper} {kas : List Nat} {y z : DC} {ks : List Nat} {e e' : Env} {H H' : Heap} {id mid ck : Nat} {es : List (Int × TV)} {K : List Fr} (h1 : get e it = some (.ref id 0)) (h2 : H[id]? = some (.iter mid ck)) (h3 : H[mid]? = some (.mapS es ck))
  (hf : ∀ p : List (Int × TV), p.Perm es -> mf pg R it id nxt pair ops kas y ks p (keepE ks e) ((H.set id .dead).set mid .dead) = some (e', H')) :
  go pg R (.c (.mrange it nx mo ou nxt pair ops kas y ks z) :: K) .normal e H = go pg R (.c z :: K) .normal e' (H'.set mid (.mapS es ck)) := by
 simp only [go, runC_mrange h1 h2 h3 hf]

theorem go_mrangeZ {it nx mo ou nxt pair : Nat} {ops : List DOper} {kas : List Nat} {y z : DC} {ks : List Nat} {e : Env} {H : Heap} {id mid ck : Nat} {es : List (Int × TV)} {K : List Fr} {o : Out} (h1 : get e it = some (.ref id 0)) (h2 : H[id]? = some (.iter mid ck)) (h3 : H[mid]? = some (.mapS es ck))
  (hf : ∀ p : List (Int × TV), p.Perm es -> ∃ e' H', mf pg R it id nxt pair ops kas y ks p (keepE ks e) ((H.set id .dead).set mid .dead) = some (e', H') /\ go pg R [.c z] .normal e' (H'.set mid (.mapS es ck)) = some o) :
  go pg R (.c (.mrange it nx mo ou nxt pair ops kas y ks z) :: K) .normal e H = go pg R K o.ex o.env o.H := by
 have ht : ∀ p : List (Int × TV), p.Perm es -> mthen (mround pg R nxt ops kas (runC pg R y)) (runC pg R z) it id pair ks mid es ck (keepE ks e) ((H.set id .dead).set mid .dead) p = some o := by
  intro p hp
  obtain ⟨e', H', g1, g2⟩ := hf p hp
  simp only [mf] at g1
  rw [<- runC_go] at g2
  simp only [mthen, g1, Option.bind_some, g2]
 have : runC pg R (.mrange it nx mo ou nxt pair ops kas y ks z) e H = some o := by
  simp only [runC, h1, h2, h3, if_true]
  rw [if_pos (permOk_all fun p hp => (ht p hp).trans (ht es (List.Perm.refl _)).symm), ht es (List.Perm.refl _)]
 simp only [go, this, Option.bind_some]

/-! ### clear, cap -/
end

/-! ### one after another, in any order -/
theorem foldl_perm {α β : Type} {f : β -> α -> β} {I : β -> Prop} {J : α -> Prop} (hI : ∀ z x, I z -> J x -> I (f z x)) (hc : ∀ z x y, I z -> J x -> J y -> f (f z x) y = f (f z y) x) :
  ∀ {l m : List α}, l.Perm m -> (∀ x ∈ l, J x) -> ∀ z, I z -> l.foldl f z = m.foldl f z := by
 intro l m h
 induction h with
 | nil => intro _ z _; rfl
 | cons x _ ih =>
  intro hJ z hz
  exact ih (fun y hy => hJ y (List.mem_cons_of_mem _ hy)) _ (hI z x hz (hJ x (List.mem_cons_self ..)))
 | swap x y l =>
  intro hJ z hz
  simp only [List.foldl_cons]
  rw [hc z y x hz (hJ y (List.mem_cons_self ..)) (hJ x (List.mem_cons_of_mem _ (List.mem_cons_self ..)))]
 | trans h1 _ ih1 ih2 =>
  intro hJ z hz
  exact (ih1 hJ z hz).trans (ih2 (fun y hy => hJ y (h1.mem_iff.2 hy)) z hz)

end Go.Dn

/-
 Words of 64 bits: sets of small numbers.
-/

namespace Go.Dn

theorem wrap_u {m : Nat} (h : m < 18446744073709551616) : wrapR .u64 (m : Int) = .i .u64 (m : Int) := by
 unfold wrapR; simp [IntKind.wrap, IntKind.signed, IntKind.bits]; omega

/-! how many -/
def m1 : Nat -> Nat | 0 => 0 | k + 1 => 85 + 256 * m1 k
def m2 : Nat -> Nat | 0 => 0 | k + 1 => 51 + 256 * m2 k
/-! the least one -/
end Go.Dn

/-
 Slices of slices of whole numbers, as values.
-/

namespace Go.Dn

def SSV (t : TV) (l : List (List Int)) : Prop := t = .nilsl /\ l = [] \/ ∃ b es, t = .bs b 1 es /\ es.length = l.length /\ ∀ (i : Nat) e x, es[i]? = some e -> l[i]? = some x -> SV e x

theorem SSV.one {t : TV} {l : List (List Int)} (h : SSV t l) : t.one = true := by
 rcases h with ⟨rfl, rfl⟩ | ⟨b, es, rfl, _⟩ <;> rfl
theorem SSV.noagg {t : TV} {l : List (List Int)} (h : SSV t l) : t.isAgg = false := by
 rcases h with ⟨rfl, rfl⟩ | ⟨b, es, rfl, _⟩ <;> rfl
theorem SSV.len {t : TV} {l : List (List Int)} (h : SSV t l) (H : Heap) : lenK 0 t H = some l.length := by
 rcases h with ⟨rfl, rfl⟩ | ⟨b, es, rfl, h1, _⟩
 ·rfl
 ·simp [lenK, h1]

theorem SSV.snap {t : TV} {l : List (List Int)} (h : SSV t l) (H : Heap) (f : Nat) : ∃ t', Dn.snap .borrow H (f + 3) t = some t' /\ SSV t' l := by
 rcases h with ⟨rfl, rfl⟩ | ⟨b, es, rfl, hl, he⟩
 ·exact ⟨_, snS_nil _ _ _, .inl ⟨rfl, rfl⟩⟩
 ·have : ∀ (es : List TV) (l : List (List Int)), es.length = l.length -> (∀ (i : Nat) e x, es[i]? = some e -> l[i]? = some x -> SV e x) -> ∃ es', mapO (Dn.snap .borrow H (f + 2)) es = some es' /\ es'.length = l.length /\ ∀ (i : Nat) e x, es'[i]? = some e -> l[i]? = some x -> SV e x := by
   intro es
   induction es with
   | nil =>
    intro l hl _
    refine ⟨[], rfl, hl, fun i e x h => by simp at h⟩
   | cons e es ih =>
    intro l hl he
    cases l with
    | nil => simp at hl
    | cons x l =>
     obtain ⟨es', h1, h2, h3⟩ := ih l (by simpa using hl) fun i e x h1 h2 => he (i + 1) e x h1 h2
     obtain ⟨e', h4, h5⟩ := (he 0 e x rfl rfl).snap H f
     refine ⟨e' :: es', by simp [mapO, h4, h1], by simp [h2], fun i a y ha hy => ?_⟩
     cases i with
     | zero => simp at ha hy; subst ha hy; exact h5
     | succ i => exact h3 i a y (by simpa using ha) (by simpa using hy)
  obtain ⟨es', h1, h2, h3⟩ := this es l hl he
  exact ⟨.bs true 1 es', by rw [snS_bsB, h1]; rfl, .inr ⟨true, es', rfl, h2, h3⟩⟩

theorem SSV.ix {pg : Pg} {R : Rec} {t : TV} {l : List (List Int)} (h : SSV t l) {i : Nat} {x : List Int} (hx : l[i]? = some x) (H : Heap) :
  ∃ p a, dkc pg R (.ixS 1 false) [t, .i .i64 (i : Int)] H = some (p, H) /\ dkc pg R (.ld 1 false) [p] H = some (a, H) /\ SV a x := by
 rcases h with ⟨rfl, rfl⟩ | ⟨b, es, rfl, hl, he⟩
 ·simp at hx
 ·have hi : i < es.length := by rw [hl]; exact (List.getElem?_eq_some_iff.1 hx).1
  have ha := he i es[i] x (List.getElem?_eq_getElem hi) hx
  refine ⟨.bp b es[i], es[i], ?_, k_ldV _ _ ha.one _, ha⟩
  rw [ZY _ _ _ _ _ _ _ (by omega)]
  simp [List.getElem?_eq_getElem hi, up]

theorem elR_SSV (b c : Bool) (l : List (List Int)) : SSV ((elR c).lt b l) l := by
 cases l with
 | nil => exact .inl ⟨rfl, rfl⟩
 | cons y l =>
  refine .inr ⟨b, (y :: l).map (elR c).val, rfl, by simp, fun i e x he hx => ?_⟩
  rw [List.getElem?_map, hx] at he
  simp at he
  subst he
  exact .lt _ _

end Go.Dn

/-
 Maps from whole numbers to numbers, by what they answer.
-/

namespace Go.Dn

def CM (es : List (Int × TV)) (g : Int -> Option Nat) : Prop := Rise es /\ ∀ k, lookS k es = (g k).map fun n => .i .i64 (n : Int)

theorem CM.nil : CM [] fun _ => none := ⟨List.Pairwise.nil, fun _ => rfl⟩

theorem CM.uniq {es es' : List (Int × TV)} {g : Int -> Option Nat} (h : CM es g) (h' : CM es' g) : es = es' := Rise.ext h.1 h'.1 fun k => by rw [h.2, h'.2]

def updM (g : Int -> Option Nat) (k : Int) (v : Nat) : Int -> Option Nat := fun j => if j = k then some v else g j

theorem CM.ins {es : List (Int × TV)} {g : Int -> Option Nat} (h : CM es g) (k : Int) (v : Nat) : CM (insS k (.i .i64 (v : Int)) es) (updM g k v) := by
 refine ⟨insS_rise h.1, fun j => ?_⟩
 rw [insS_get h.1]
 unfold updM
 by_cases hj : j = k
 ·rw [if_pos hj, if_pos hj]; rfl
 ·rw [if_neg hj, if_neg hj]; exact h.2 j

theorem insS_len {es : List (Int × TV)} (h : Rise es) (k : Int) (v : TV) : (insS k v es).length = ckS es.length k es := by
 unfold ckS
 cases hl : lookS k es with
 | none =>
  rw [(insS_new h hl).length_eq]
  rfl
 | some v0 =>
  obtain ⟨m1, m2, e1, e2⟩ := insS_old (v := v) h hl
  have h1 := congrArg List.length e1
  have h2 := congrArg List.length e2
  simp only [List.length_append, List.length_cons] at h1 h2
  rw [h1, h2]
  rfl

def TV.num : TV -> Nat
 | .i _ n => n.toNat
 | _ => 0

def mass (es : List (Int × TV)) : Nat := (es.map fun p => p.2.num).sum

theorem CM.mass_ins {es : List (Int × TV)} {g : Int -> Option Nat} (h : CM es g) (k : Int) (v : Nat) : mass (insS k (.i .i64 (v : Int)) es) + (g k).getD 0 = mass es + v := by
 unfold mass
 have hk := h.2 k
 cases hg : g k with
 | none =>
  rw [hg] at hk
  rw [((insS_new (v := .i .i64 (v : Int)) h.1 hk).map _).sum_nat]
  simp only [List.map_cons, List.sum_cons, Option.getD_none, TV.num, Int.toNat_natCast]
  omega
 | some n =>
  rw [hg] at hk
  obtain ⟨m1, m2, e1, e2⟩ := insS_old (v := .i .i64 (v : Int)) h.1 hk
  rw [e2]
  conv => rhs; rw [e1]
  simp only [List.map_append, List.map_cons, List.sum_append, List.sum_cons, TV.num, Option.getD_some, Int.toNat_natCast]
  omega

theorem CM.le_mass {es : List (Int × TV)} {g : Int -> Option Nat} (h : CM es g) (k : Int) : (g k).getD 0 <= mass es := by
 have h1 := h.mass_ins k 0
 have h2 := h.mass_ins k ((g k).getD 0)
 unfold mass at *
 omega

def addM (g : Int -> Option Nat) (k : Int) (n : Nat) : Int -> Option Nat := updM g k ((g k).getD 0 + n)

theorem addM_at (g : Int -> Option Nat) (k : Int) (n : Nat) (j : Int) : addM g k n j = if j = k then some ((g k).getD 0 + n) else g j := rfl
theorem addM_getD (g : Int -> Option Nat) (k : Int) (n : Nat) (j : Int) : (addM g k n j).getD 0 = (g j).getD 0 + if j = k then n else 0 := by
 rw [addM_at]
 by_cases h : j = k
 ·rw [if_pos h, if_pos h, h]; rfl
 ·rw [if_neg h, if_neg h]; rfl
theorem addM_some (g : Int -> Option Nat) (k : Int) (n : Nat) (j : Int) : (addM g k n j).isSome = ((g j).isSome || decide (j = k)) := by
 rw [addM_at]
 by_cases h : j = k
 ·rw [if_pos h, h]; simp
 ·rw [if_neg h]; simp [h]

theorem addM_comm (g : Int -> Option Nat) (k k' : Int) (n n' : Nat) : addM (addM g k n) k' n' = addM (addM g k' n') k n := by
 funext j
 have h1 := addM_getD (addM g k n) k' n' j
 have h2 := addM_getD (addM g k' n') k n j
 have h3 := addM_some (addM g k n) k' n' j
 have h4 := addM_some (addM g k' n') k n j
 rw [addM_getD g k n j] at h1
 rw [addM_getD g k' n' j] at h2
 rw [addM_some g k n j] at h3
 rw [addM_some g k' n' j] at h4
 have h5 : (addM (addM g k n) k' n' j).isSome = (addM (addM g k' n') k n j).isSome := by
  rw [h3, h4]; cases (g j).isSome <;> cases decide (j = k) <;> cases decide (j = k') <;> rfl
 have h6 : (addM (addM g k n) k' n' j).getD 0 = (addM (addM g k' n') k n j).getD 0 := by omega
 revert h5 h6
 cases addM (addM g k n) k' n' j <;> cases addM (addM g k' n') k n j <;> simp

def addF (g : Int -> Option Nat) (s : Int) (n : Nat) (d : List Int) : Int -> Option Nat := d.foldl (fun g f => addM g (s + f) n) g

theorem addF_cons (g : Int -> Option Nat) (s : Int) (n : Nat) (f : Int) (d : List Int) : addF g s n (f :: d) = addF (addM g (s + f) n) s n d := rfl

theorem addF_addM (s : Int) (n : Nat) (k : Int) (v : Nat) : ∀ (d : List Int) (g : Int -> Option Nat), addF (addM g k v) s n d = addM (addF g s n d) k v
 | [], g => rfl
 | f :: d, g => by rw [addF_cons, addF_cons, addM_comm, addF_addM s n k v d]

theorem addF_comm (s s' : Int) (n n' : Nat) (d' : List Int) : ∀ (d : List Int) (g : Int -> Option Nat), addF (addF g s n d) s' n' d' = addF (addF g s' n' d') s n d
 | [], g => rfl
 | f :: d, g => by rw [addF_cons, addF_cons, addF_comm s s' n n' d' d, addF_addM]

theorem addF_getD (s : Int) (n : Nat) (j : Int) : ∀ (d : List Int) (g : Int -> Option Nat), (addF g s n d j).getD 0 = (g j).getD 0 + n * d.countP fun f => decide (s + f = j)
 | [], g => by simp [addF]
 | f :: d, g => by
  rw [addF_cons, addF_getD s n j d, addM_getD, List.countP_cons]
  by_cases h : j = s + f
  ·rw [if_pos h, if_pos (by simp [h]), Nat.mul_add]; omega
  ·rw [if_neg h, if_neg (by simp; omega), Nat.add_zero, Nat.add_zero]

theorem addF_some (s : Int) (n : Nat) (j : Int) : ∀ (d : List Int) (g : Int -> Option Nat), (addF g s n d j).isSome = ((g j).isSome || d.any fun f => decide (s + f = j))
 | [], g => by simp [addF]
 | f :: d, g => by
  rw [addF_cons, addF_some s n j d, addM_some, List.any_cons, Bool.or_assoc]
  congr 2
  by_cases h : j = s + f
  ·rw [decide_eq_true h, decide_eq_true h.symm]
  ·rw [decide_eq_false h, decide_eq_false (fun e => h e.symm)]

section
variable {pg : Pg} {R : Rec}
theorem CM.lk {es : List (Int × TV)} {g : Int -> Option Nat} (h : CM es g) {id ck : Nat} {H : Heap} (hi : H[id]? = some (.mapS es ck)) (k : Int) : dkc pg R (.lkS (.i .i64 0) false) [.mp id, .i .i64 k] H = some (.i .i64 (((g k).getD 0 : Nat) : Int), H) := by
 rw [k_lkS, hi, lkC_some, h.2 k]
 cases g k <;> rfl
theorem CM.set {es : List (Int × TV)} {g : Int -> Option Nat} (h : CM es g) {id : Nat} {H : Heap} (hi : H[id]? = some (.mapS es es.length)) (k : Int) (v : Nat) :
  dkc pg R .setS [.mp id, .i .i64 k, .i .i64 (v : Int)] H = some (.undef, H.set id (.mapS (insS k (.i .i64 (v : Int)) es) (insS k (.i .i64 (v : Int)) es).length)) := by
 rw [k_setS, hi, seC_some, insS_len h.1]
end

end Go.Dn

/-
 Slices of slices that may be written, each with memory of its own (literal or appended).
-/

namespace Go.Dn

def Cut (H : Heap) (t : TV) (l : List Int) : Prop :=
 t = .nilsl /\ l = [] \/ ∃ id cap c ag, t = .sl id 0 1 false l.length cap /\ l.length <= cap.getD l.length /\ H[id]? = some (.cells c ag) /\ l.length <= c.length /\ c.take l.length = elI.flat l

theorem Cut.own {H : Heap} {t : TV} {l : List Int} (h : elI.Own H t l) : Cut H t l := by
 rcases h with h | ⟨_, id, ag, c, rfl, h1, h2, h3⟩
 ·exact .inl h
 ·exact .inr ⟨id, none, c, ag, rfl, Nat.le_refl _, h1, by simpa [elI] using h2, by simpa [elI] using h3⟩

theorem Cut.lit (H : Heap) (v : Int) : Cut (H ++ [.cells [.i .i64 v] false]) (.sl H.length 0 1 false 1 (some 1)) [v] :=
 .inr ⟨H.length, some 1, _, false, rfl, by simp, getLast _ _, by simp, by simp [elI, El.flat]⟩

theorem Cut.mono {H H' : Heap} {t : TV} {l : List Int} (h : Cut H t l) (hf : ∀ id, t.idOf = some id -> H'[id]? = H[id]?) : Cut H' t l := by
 rcases h with h | ⟨id, cap, c, ag, rfl, h0, h1, h2, h3⟩
 ·exact .inl h
 ·exact .inr ⟨id, cap, c, ag, rfl, h0, by rw [hf id rfl]; exact h1, h2, h3⟩

theorem Cut.lt {H : Heap} {t : TV} {l : List Int} (h : Cut H t l) : ∀ id, t.idOf = some id -> id < H.length := by
 rcases h with ⟨rfl, _⟩ | ⟨id, cap, c, ag, rfl, h0, h1, _⟩
 ·intro id hid; cases hid
 ·intro id' hid
  have : id = id' := Option.some.inj hid
  subst this
  exact (List.getElem?_eq_some_iff.1 h1).1

theorem Cut.one {H : Heap} {t : TV} {l : List Int} (h : Cut H t l) : t.one = true /\ t.isAgg = false /\ t.cells = [t] := by
 rcases h with ⟨rfl, _⟩ | ⟨id, cap, c, ag, rfl, _⟩ <;> exact ⟨rfl, rfl, rfl⟩

theorem Cut.view {H : Heap} {t : TV} {l : List Int} (h : Cut H t l) : elI.View H t l := by
 rcases h with ⟨rfl, rfl⟩ | ⟨id, cap, c, ag, rfl, h0, h1, h2, h3⟩
 ·exact .inl ⟨rfl, rfl⟩
 ·exact .inr (.inr ⟨id, 0, cap, c, ag, rfl, h0, h1, by simpa [elI] using h2, by simpa [elI] using h3⟩)

theorem mapO_ints {H : Heap} {m : SM} (f : Nat) : ∀ l : List Int, mapO (Dn.snap m H (f + 1)) (l.map elI.val) = some (l.map elI.val)
 | [] => rfl
 | a :: l => by
  rw [List.map_cons, mapO, show elI.val a = .i .i64 a from rfl, snS_i, Option.bind_some, mapO_ints f l]
  rfl

theorem Cut.fin {H : Heap} {t : TV} {l : List Int} (h : Cut H t l) (hp : l ≠ []) (f : Nat) : Dn.snap .fin H (f + 2) t = some (elI.lt false l) := by
 rcases h with ⟨_, rfl⟩ | ⟨id, cap, c, ag, rfl, h0, h1, h2, h3⟩
 ·exact absurd rfl hp
 ·have hne : (l.length = 0) = False := by
   simp only [List.length_eq_zero_iff, eq_iff_iff, iff_false]; exact hp
  have e1 : elems 1 false l.length (elI.flat l) = l.map elI.val := by
   have := elI.elems_flat l
   exact this
  rw [snS_sl _ (by decide), h1, Yw, if_pos ⟨by omega, .inr rfl⟩, List.drop_zero, Nat.mul_one, h3, e1, mapO_ints]
  cases l with
  | nil => exact absurd rfl hp
  | cons a l => rfl

theorem Cut.at {pg : Pg} {R : Rec} {H : Heap} {t : TV} {l : List Int} (h : Cut H t l) {k : Nat} {x : Int} (hx : l[k]? = some x) :
  ∃ id o, t.idOf = some id /\ dkc pg R (.ixS 1 false) [t, .i .i64 (k : Int)] H = some (.ref id o, H) /\ dkc pg R (.ld 1 false) [.ref id o] H = some (.i .i64 x, H) /\
   ∀ y : Int, ∃ H', dkc pg R (.st 1) [.ref id o, .i .i64 y] H = some (.undef, H') /\ Cut H' t (l.set k y) /\ H'.length = H.length /\ ∀ j, t.idOf ≠ some j -> H'[j]? = H[j]? := by
 have hk := (List.getElem?_eq_some_iff.1 hx).1
 rcases h with ⟨rfl, rfl⟩ | ⟨id, cap, c, ag, rfl, h0, h1, h2, h3⟩
 ·simp at hx
 ·have hlt := (List.getElem?_eq_some_iff.1 h1).1
  have hck : c[k]? = some (.i .i64 x) := by
   have h4 : (c.take l.length)[k]? = c[k]? := List.getElem?_take_of_lt hk
   rw [h3, show elI.flat l = l.map (fun n => .i .i64 n) from elI_flat_map l, List.getElem?_map, hx] at h4
   exact h4.symm
  refine ⟨id, k, rfl, ?_, ?_, fun y => ⟨H.set id (.cells (put2 c k [.i .i64 y]) ag), ?_, .inr ⟨id, cap, _, ag, by rw [List.length_set], by rw [List.length_set]; exact h0, List.getElem?_set_self hlt, ?_, ?_⟩, by simp, fun j hj => ?_⟩⟩
  ·have := ZZ (pg := pg) (R := R) 1 false false id 0 l.length cap .i64 (k : Int) H (by omega) (by simpa using hk)
   simpa using this
  ·rw [ZL]
   simp [ldC, h1, part, hck, up]; rfl
  ·rw [ZQ]
   simp only [stC, h1]
   rw [if_pos ⟨rfl, by simp [TV.one], by omega⟩]
  ·simp only [put2, List.length_append, List.length_take, List.length_drop, List.length_set, List.length_singleton]; omega
  ·rw [List.length_set]
   have e : put2 c k [.i .i64 y] = c.set k (.i .i64 y) := by
    unfold put2
    rw [List.set_eq_take_append_cons_drop, if_pos (by omega)]
    simp
   rw [e, List.take_set, h3, elI_flat_map, elI_flat_map, List.map_set]
  ·rw [List.getElem?_set_ne (fun he => hj (by rw [<- he]; rfl))]

structure NestC (H : Heap) (out : TV) (ts : List {t : TV // t.one = true}) (ls : List (List Int)) : Prop where
 own : elC.Own H out ts
 len : ts.length = ls.length
 row : ∀ (i : Nat) t l, ts[i]? = some t -> ls[i]? = some l -> Cut H t.1 l /\ ∀ id, t.1.idOf = some id -> out.idOf ≠ some id
 dis : ∀ (i j : Nat) t u id, i ≠ j -> ts[i]? = some t -> ts[j]? = some u -> t.1.idOf = some id -> u.1.idOf ≠ some id

theorem NestC.nil (H : Heap) : NestC H .nilsl [] [] := ⟨.inl ⟨rfl, rfl⟩, rfl, fun i t l h => (by simp at h), fun i j t u id _ h => (by simp at h)⟩

theorem NestC.mono {H H' : Heap} {out : TV} {ts : List {t : TV // t.one = true}} {ls : List (List Int)} (h : NestC H out ts ls) (hf : ∀ id, id < H.length -> H'[id]? = H[id]?) : NestC H' out ts ls where
 own := h.own.mono fun id hid => hf id (h.own.lt id hid)
 len := h.len
 row i t l ht hl := by
  obtain ⟨h4, h5⟩ := h.row i t l ht hl
  exact ⟨h4.mono fun id hid => hf id (h4.lt id hid), h5⟩
 dis := h.dis

theorem NestC.lt {H : Heap} {out : TV} {ts : List {t : TV // t.one = true}} {ls : List (List Int)} (h : NestC H out ts ls) {i : Nat} {t : {t : TV // t.one = true}} (ht : ts[i]? = some t) {id : Nat} (hid : t.1.idOf = some id) : id < H.length := by
 have hi := (List.getElem?_eq_some_iff.1 ht).1
 have hl := h.len
 exact (h.row i t ls[i] ht (List.getElem?_eq_getElem (by omega))).1.lt id hid

theorem NestC.app {H : Heap} {out R : TV} {ts : List {t : TV // t.one = true}} {ls : List (List Int)} {l : List Int} (h : NestC H out ts ls) (hR : Cut H R l) (hd : ∀ id, R.idOf = some id -> out.idOf ≠ some id)
  (hr : ∀ (i : Nat) t id, ts[i]? = some t -> R.idOf = some id -> t.1.idOf ≠ some id) (hb : ls.length + 1 <= 1000000) :
  ∃ out' H' r, appRun 1 false 24 out (.sl H.length 0 1 false 1 (some 1)) (H ++ [.cells [R] false]) = some (out', H') /\ NestC H' out' (ts ++ [r]) (ls ++ [l]) /\ H.length <= H'.length := by
 let r : {t : TV // t.one = true} := ⟨R, hR.one.1⟩
 have h1 := h.own
 have h2 := h.len
 have hview : elC.View (H ++ [.cells [R] false]) (.sl H.length 0 1 false 1 (some 1)) [r] :=
  .inr (.inr ⟨H.length, 0, some 1, _, false, rfl, by simp, getLast _ _, by simp [elC], by simp [elC, El.flat, r]⟩)
 obtain ⟨out', H', a1, a2, a3, a4, a5⟩ := El.app (E := elC) (bytes := 24) (h1.mono (H' := H ++ [.cells [R] false]) fun id hid => by rw [List.getElem?_append_left (h1.lt id hid)]) hview (by simp only [List.length_singleton]; omega)
 have hfr : ∀ j, j < H.length -> out.idOf ≠ some j -> H'[j]? = H[j]? := fun j hj hne => by
  rw [a4 j (by simp; omega) hne, List.getElem?_append_left hj]
 have hnew : ∀ id, out'.idOf = some id -> H.length <= id := by
  intro id hid
  rcases a5 with rfl | a5
  ·exfalso
   rcases a2 with ⟨_, a2⟩ | ⟨_, id', ag, c, e1, _⟩
   ·simp at a2
   ·rcases h1 with ⟨rfl, _⟩ | ⟨_, id2, ag2, c2, e2, _⟩
    ·cases e1
    ·rw [e2] at e1
     simp at e1
  ·have := a5 id hid
   simp at this
   omega
 have hget : ∀ {i : Nat} {t : {t : TV // t.one = true}}, (ts ++ [r])[i]? = some t -> (i < ts.length /\ ts[i]? = some t) \/ (i = ts.length /\ t = r) := by
  intro i t ht
  by_cases hi : i < ts.length
  ·rw [List.getElem?_append_left hi] at ht; exact .inl ⟨hi, ht⟩
  ·have hi' : i = ts.length := by
    have := (List.getElem?_eq_some_iff.1 ht).1
    simp at this
    omega
   subst hi'
   rw [List.getElem?_append_right (Nat.le_refl _), Nat.sub_self] at ht
   simp at ht
   exact .inr ⟨rfl, ht.symm⟩
 refine ⟨out', H', r, a1, ⟨a2, by simp [h2], fun i t k ht hk => ?_, fun i j t u id hij ht hu hid => ?_⟩, by simp at a3; omega⟩
 ·have hne : ∀ id, id < H.length -> out'.idOf ≠ some id := fun id hlt he => by have := hnew id he; omega
  rcases hget ht with ⟨hi, ht⟩ | ⟨rfl, rfl⟩
  ·rw [List.getElem?_append_left (by omega)] at hk
   obtain ⟨h4, h5⟩ := h.row i t k ht hk
   exact ⟨h4.mono fun id hid => hfr id (h4.lt id hid) (h5 id hid), fun id hid => hne id (h4.lt id hid)⟩
  ·rw [h2, List.getElem?_append_right (Nat.le_refl _), Nat.sub_self] at hk
   simp at hk
   subst hk
   exact ⟨hR.mono fun id hid => hfr id (hR.lt id hid) (hd id hid), fun id hid => hne id (hR.lt id hid)⟩
 ·rcases hget ht with ⟨hi, ht⟩ | ⟨rfl, rfl⟩
  ·rcases hget hu with ⟨hj, hu⟩ | ⟨rfl, rfl⟩
   ·exact h.dis i j t u id hij ht hu hid
   ·exact fun he => hr i t id ht he hid
  ·rcases hget hu with ⟨hj, hu⟩ | ⟨rfl, rfl⟩
   ·exact hr j u id hu hid
   ·exact absurd rfl hij

theorem NestC.fin {H : Heap} {out : TV} {ts : List {t : TV // t.one = true}} {ls : List (List Int)} (h : NestC H out ts ls) (hp : ∀ l ∈ ls, l ≠ []) (f : Nat) : Dn.snap .fin H (f + 4) out = some ((elR false).lt false ls) := by
 refine h.own.to (m := .fin) (by decide) (E' := elR false) rfl ?_
 have : ∀ (ts : List {t : TV // t.one = true}) (ls : List (List Int)), ts.length = ls.length -> (∀ l ∈ ls, l ≠ []) -> (∀ (i : Nat) t l, ts[i]? = some t -> ls[i]? = some l -> Cut H t.1 l) -> mapO (Dn.snap .fin H (f + 3)) (ts.map elC.val) = some (ls.map (elR false).val) := by
  intro ts
  induction ts with
  | nil => intro ls hl _ _; cases ls with
   | nil => rfl
   | cons x l => simp at hl
  | cons t ts ih =>
   intro ls hl hp hk
   cases ls with
   | nil => simp at hl
   | cons l ls =>
    have ht := hk 0 t l rfl rfl
    have hv : Dn.snap .fin H (f + 3) t.1 = some (elI.lt false l) := ht.fin (hp l (by simp)) (f + 1)
    rw [List.map_cons, mapO, show elC.val t = t.1 from rfl, hv, Option.bind_some, ih ls (by simpa using hl) (fun l hl => hp l (List.mem_cons_of_mem _ hl)) fun i t l h1 h2 => hk (i + 1) t l h1 h2]
    rfl
 exact this ts ls h.len hp fun i t l ht hl => (h.row i t l ht hl).1

def Outer (H : Heap) (out : TV) (ts : List {t : TV // t.one = true}) : Prop := elC.Own H out ts \/ ∃ id t, out = .sl id 0 1 false 1 (some 1) /\ ts = [t] /\ H[id]? = some (.cells [t.1] false)

theorem Outer.view {H : Heap} {out : TV} {ts : List {t : TV // t.one = true}} (h : Outer H out ts) : elC.View H out ts := by
 rcases h with h | ⟨id, t, rfl, rfl, h⟩
 ·exact h.view
 ·exact .inr (.inr ⟨id, 0, some 1, _, false, rfl, by simp, h, by simp [elC], by simp [elC, El.flat]⟩)

theorem Outer.mono {H H' : Heap} {out : TV} {ts : List {t : TV // t.one = true}} (h : Outer H out ts) (hf : ∀ id, out.idOf = some id -> H'[id]? = H[id]?) : Outer H' out ts := by
 rcases h with h | ⟨id, t, rfl, rfl, h⟩
 ·exact .inl (h.mono hf)
 ·exact .inr ⟨id, t, rfl, rfl, by rw [hf id rfl]; exact h⟩

structure NestW (H : Heap) (out : TV) (ts : List {t : TV // t.one = true}) (ls : List (List Int)) : Prop where
 own : Outer H out ts
 len : ts.length = ls.length
 row : ∀ (i : Nat) t l, ts[i]? = some t -> ls[i]? = some l -> Cut H t.1 l /\ ∀ id, t.1.idOf = some id -> out.idOf ≠ some id
 dis : ∀ (i j : Nat) t u id, i ≠ j -> ts[i]? = some t -> ts[j]? = some u -> t.1.idOf = some id -> u.1.idOf ≠ some id

theorem NestC.w {H : Heap} {out : TV} {ts : List {t : TV // t.one = true}} {ls : List (List Int)} (h : NestC H out ts ls) : NestW H out ts ls := ⟨.inl h.own, h.len, h.row, h.dis⟩

theorem NestW.lit {H : Heap} {t : TV} {l : List Int} (h : Cut H t l) : ∃ ts, NestW (H ++ [.cells [t] false]) (.sl H.length 0 1 false 1 (some 1)) ts [l] := by
 refine ⟨[⟨t, h.one.1⟩], .inr ⟨H.length, _, rfl, rfl, getLast _ _⟩, rfl, fun i u m hu hm => ?_, fun i j u v id hij hu hv => ?_⟩
 ·cases i with
  | zero =>
   simp at hu hm
   subst hu hm
   refine ⟨h.mono fun id hid => List.getElem?_append_left (h.lt id hid), fun id hid he => ?_⟩
   have h1 := h.lt id hid
   have h2 : H.length = id := Option.some.inj he
   omega
  | succ i => simp at hu
 ·have h1 := (List.getElem?_eq_some_iff.1 hu).1
  have h2 := (List.getElem?_eq_some_iff.1 hv).1
  simp at h1 h2
  omega

theorem NestW.fin {H : Heap} {out : TV} {ts : List {t : TV // t.one = true}} {ls : List (List Int)} (h : NestW H out ts ls) (hp : ∀ l ∈ ls, l ≠ []) (f : Nat) : Dn.snap .fin H (f + 4) out = some ((elR false).lt false ls) := by
 rcases h.own with ho | ⟨id, t, rfl, rfl, ho⟩
 ·exact NestC.fin ⟨ho, h.len, h.row, h.dis⟩ hp f
 ·have hl := h.len
  match ls, hl with
  | [l], _ =>
   have hv : Dn.snap .fin H (f + 3) t.1 = some (elI.lt false l) := (h.row 0 t l rfl rfl).1.fin (hp l (by simp)) (f + 1)
   rw [snS_sl _ (by decide), ho, Yw, if_pos ⟨by simp, .inr rfl⟩]
   show (mapO (Dn.snap .fin H (f + 3)) [t.1]).map _ = _
   rw [mapO, hv, Option.bind_some, mapO]
   rfl

end Go.Dn

/-
 slices.SortFunc on an own row: the elements sorted.
-/

namespace Go.Dn
open Go.Sort

structure Ordr {α : Type} (cf : α -> α -> Int) : Prop where
 irr : ∀ x, ¬ cf x x < 0
 tr : ∀ x y z, cf x y < 0 -> cf y z < 0 -> cf x z < 0
 ntr : ∀ x y z, ¬ cf x y < 0 -> ¬ cf y z < 0 -> ¬ cf x z < 0

theorem put2_all {α : Type} {l m : List α} {off : Nat} (h : off + m.length <= l.length) : ((put2 l off m).drop off).take m.length = m := by
 unfold put2
 have e : (l.take off).length = off := by simp; omega
 rw [List.append_assoc, List.drop_append_of_le_length (by omega), List.drop_of_length_le (by omega), List.nil_append, List.take_left']
 rfl

theorem sort_own {α : Type} {E : El α} (hag : E.ag = true) {pg : Pg} {f g : Nat} {cs : List TV} {H : Heap} {t : TV} {l : List α} (hQ : pg.Q f = some E.sz) (h : E.Own H t l) {cf : α -> α -> Int} (hO : Ordr cf)
  (hcmp : ∀ H0 x y, x ∈ l -> y ∈ l -> (∀ j, t.idOf ≠ some j -> H0[j]? = H[j]?) -> cmpRun pg (den pg) H0 g cs (.agg (E.enc x)) (.agg (E.enc y)) = some (cf x y)) (hlen : l.length < 4611686018427387904) :
  ∃ l' H', callRun pg (den pg) .so [.fn f [] [], t, .fn g [] cs] H = some (.tup [], H') /\ E.Own H' t l' /\ l'.Perm l /\ l'.Pairwise (fun x y => ¬ cf y x < 0) /\ (∀ j, t.idOf ≠ some j -> H'[j]? = H[j]?) /\ H'.length = H.length /\ ∀ id off len cap c ag, t = .sl id off E.sz E.ag len cap -> H[id]? = some (.cells c ag) -> H' = H.set id (.cells (put2 c 0 (E.flat l')) ag) := by
 rcases h with ⟨rfl, rfl⟩ | ⟨hne, id, ag, c, rfl, h1, h2, h3⟩
 ·refine ⟨[], H, ?_, .inl ⟨rfl, rfl⟩, List.Perm.refl _, List.Pairwise.nil, fun _ _ => rfl, rfl, fun id off len cap c ag h => by cases h⟩
  simp [callRun, sortRun, hQ]
 have hn : 0 < l.length := List.length_pos_iff.2 hne
 have hid := (List.getElem?_eq_some_iff.1 h1).1
 obtain ⟨n, hnl⟩ : ∃ n, n = l.length := ⟨_, rfl⟩
 -- an element's cells
 have hel : ∀ i, i < l.length -> ∃ x, l[i]? = some x /\ elAt E.sz 0 c i = E.enc x := by
  intro i hi
  refine ⟨l[i], List.getElem?_eq_getElem hi, ?_⟩
  have e1 : (i * E.sz) + E.sz <= l.length * E.sz := by
   have := Nat.mul_le_mul_right E.sz (show i + 1 <= l.length from hi); rw [Nat.add_mul, Nat.one_mul] at this; exact this
  have e2 : elAt E.sz 0 c i = ((c.take (l.length * E.sz)).drop (i * E.sz)).take E.sz := by
   unfold elAt
   rw [Nat.zero_add, List.drop_take, List.take_take]
   congr 1
   omega
  rw [e2, h3, E.flat_drop, List.drop_eq_getElem_cons hi, E.flat_cons, List.take_left' (E.len _)]
 have hget : ∀ i, i < l.length -> elAt E.sz 0 c i = E.enc (l.getD i (l[0]'hn)) := fun i hi => by
  obtain ⟨x, hx, he⟩ := hel i hi
  rw [he, List.getD_eq_getElem?_getD, hx]; rfl
 have hcr : ∀ i j, i < l.length -> j < l.length -> cmpRun pg (den pg) (H.set id .dead) g cs (.agg (elAt E.sz 0 c i)) (.agg (elAt E.sz 0 c j)) = some (cf (l.getD i (l[0]'hn)) (l.getD j (l[0]'hn))) := fun i j hi hj => by
  rw [hget i hi, hget j hj]
  have hm : ∀ i, i < l.length -> l.getD i (l[0]'hn) ∈ l := fun i hi => by rw [List.getD_eq_getElem?_getD, List.getElem?_eq_getElem hi]; exact List.getElem_mem hi
  exact hcmp _ _ _ (hm i hi) (hm j hj) fun k hk => List.getElem?_set_ne fun e => hk (by rw [<- e]; rfl)
 have hT : mapO (fun i => mapO (fun j => cmpRun pg (den pg) (H.set id .dead) g cs (.agg (elAt E.sz 0 c i)) (.agg (elAt E.sz 0 c j))) (List.range l.length)) (List.range l.length) =
   some ((List.range l.length).map fun i => (List.range l.length).map fun j => cf (l.getD i (l[0]'hn)) (l.getD j (l[0]'hn))) := by
  have key : ∀ {α β : Type} {f : α -> Option β} {k : α -> β} {m : List α}, (∀ a ∈ m, f a = some (k a)) -> mapO f m = some (m.map k) := by
   intro α β f k m
   induction m with
   | nil => intro _; rfl
   | cons a m ih => intro hm; simp only [mapO, hm a (List.mem_cons_self ..), Option.bind_some, ih fun b hb => hm b (List.mem_cons_of_mem _ hb), List.map_cons]
  refine key fun i hi => key fun j hj => ?_
  exact hcr i j (List.mem_range.1 hi) (List.mem_range.1 hj)
 obtain ⟨T, hTd⟩ : ∃ T, T = (List.range l.length).map fun i => (List.range l.length).map fun j => cf (l.getD i (l[0]'hn)) (l.getD j (l[0]'hn)) := ⟨_, rfl⟩
 rw [<- hTd] at hT
 have hcf : ∀ i j, cfT T l.length i j = cf (l.getD (min i (l.length - 1)) (l[0]'hn)) (l.getD (min j (l.length - 1)) (l[0]'hn)) := by
  intro i j
  unfold cfT
  have hr : ∀ i, (List.range l.length)[min i (l.length - 1)]? = some (min i (l.length - 1)) := fun i => by rw [List.getElem?_range (by omega)]
  simp only [hTd, List.getD_eq_getElem?_getD, List.getElem?_map, hr, Option.map_some, Option.getD_some]
 have hS : SWO (ltT T l.length) := by
  refine ⟨fun x => ?_, fun x y z => ?_, fun x y z => ?_⟩
  ·unfold ltT; rw [hcf]; exact decide_eq_false (hO.irr _)
  ·unfold ltT; rw [hcf, hcf, hcf]; simp only [decide_eq_true_eq]; exact hO.tr _ _ _
  ·unfold ltT; rw [hcf, hcf, hcf]; simp only [decide_eq_false_iff_not]; exact hO.ntr _ _ _
 obtain ⟨p1, p2, p3⟩ := sorted_perm hS
 obtain ⟨d, hd⟩ : ∃ d, d = sorted T l.length := ⟨_, rfl⟩
 rw [<- hd] at p1 p2 p3
 have hdl : ∀ i ∈ d, i < l.length := fun i hi => List.mem_range.1 (p1.mem_iff.1 hi)
 have hfl : d.flatMap (elAt E.sz 0 c) = E.flat (d.map fun i => l.getD i (l[0]'hn)) := by
  unfold El.flat
  rw [List.flatMap_def, List.flatMap_def, List.map_map]
  congr 1
  apply List.map_congr_left
  intro i hi
  exact hget i (hdl i hi)
 have hll : (d.map fun i => l.getD i (l[0]'hn)).length = l.length := by simpa using p2
 have hrun : sortRun pg (den pg) f [.sl id 0 E.sz E.ag l.length none, .fn g [] cs] H = some (.tup [], H.set id (.cells (put2 c 0 (E.flat (d.map fun i => l.getD i (l[0]'hn)))) ag)) := by
  unfold sortRun
  simp only [hQ, Option.bind_some]
  rw [if_neg (by omega), h1]
  simp only
  rw [if_pos ⟨trivial, E.pos, trivial, hlen, by omega⟩, hT, Option.bind_some, if_pos hS, <- hd, hfl]
 have hfn := E.flat_len (d.map fun i => l.getD i (l[0]'hn))
 rw [hll] at hfn
 refine ⟨d.map fun i => l.getD i (l[0]'hn), H.set id (.cells (put2 c 0 (E.flat (d.map fun i => l.getD i (l[0]'hn)))) ag), ?_, .inr ⟨fun e => by rw [e] at hll; simp at hll; omega, id, ag, put2 c 0 (E.flat (d.map fun i => l.getD i (l[0]'hn))), by rw [hll], by simp [hid], ?_, ?_⟩, ?_, ?_, fun j hj => List.getElem?_set_ne fun e => hj (by rw [<- e]; rfl), by simp, fun id' off' len' cap' c' ag' h h' => by
  cases h
  rw [h1] at h'
  cases h'
  rfl⟩
 ·exact hrun
 ·rw [hll]; simp only [put2, List.length_append, List.length_take, List.length_drop, hfn]; omega
 ·rw [hll, <- hfn]
  have := put2_all (l := c) (m := E.flat (d.map fun i => l.getD i (l[0]'hn))) (off := 0) (by omega)
  simpa using this
 ·have h5 := p1.map fun i => l.getD i (l[0]'hn)
  refine h5.trans (List.Perm.of_eq ?_)
  apply List.ext_getElem?
  intro i
  rw [List.getElem?_map]
  rcases Nat.lt_or_ge i l.length with hi | hi
  ·rw [List.getElem?_range hi, Option.map_some, List.getD_eq_getElem?_getD, List.getElem?_eq_getElem hi]; rfl
  ·rw [List.getElem?_eq_none (by simpa using hi), List.getElem?_eq_none hi]; rfl
 ·rw [List.pairwise_map, List.pairwise_iff_getElem]
  intro i j hi hj hij
  have h5 := p3 i j (Nat.zero_le _) hij (by omega)
  have gi : d.toArray[i]! = d[i] := by simp [hi]
  have gj : d.toArray[j]! = d[j] := by simp [hj]
  rw [gi, gj] at h5
  unfold ltT at h5
  rw [hcf] at h5
  have b1 := hdl d[i] (List.getElem_mem hi)
  have b2 := hdl d[j] (List.getElem_mem hj)
  rw [show min d[j] (l.length - 1) = d[j] by omega, show min d[i] (l.length - 1) = d[i] by omega] at h5
  exact of_decide_eq_false h5

end Go.Dn

