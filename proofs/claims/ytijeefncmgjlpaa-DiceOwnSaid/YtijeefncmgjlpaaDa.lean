/-
  A deterministic evaluator of loaded code over abstract values: definitions alone.
-/
import GoSem.Step
import Derived.Calls
import Derived.Sort.Statements
import Derived.Lib.BitFns
import Derived.Below
import Derived.Deep.MidRow
import Derived.Laws.CopyRow
import Derived.Laws.Append
import Derived.Laws.StructEq
import Derived.IntWalk
set_option linter.unusedSimpArgs false
set_option linter.unusedVariables false

namespace Go.Dn

inductive TV where
 | undef
 | b (x : Bool)
 | i (k : IntKind) (n : Int)
 | s (x : ByteArray)
 | nilp | nilsl | nilmap | nilfn | nilif
 | agg (l : List TV)
 | tup (l : List TV)
 | fn (f : Nat) (fs cs : List TV)
 | yl (id : Nat)
 | ref (id off : Nat)
 | sl (id off sz : Nat) (ag : Bool) (len : Nat) (cap : Option Nat)
 | esl
 | mp (id : Nat)
 | bp (bor : Bool) (v : TV)
 | bs (bor : Bool) (sz : Nat) (es : List TV)
 deriving Inhabited

def TV.cells : TV -> List TV
 | .agg l => l
 | v => [v]

def TV.one : TV -> Bool
 | .undef | .agg _ | .tup _ => false
 | _ => true

def TV.isAgg : TV -> Bool
 | .agg _ => true
 | _ => false

def mapO {α β : Type} (f : α -> Option β) : List α -> Option (List β)
 | [] => some []
 | x :: xs => (f x).bind fun y => (mapO f xs).bind fun ys => some (y :: ys)

def lenGe {α : Type} : List α -> Nat -> Bool
 | _, 0 => true
 | [], _ + 1 => false
 | _ :: l, n + 1 => lenGe l n

theorem lenGe_iff {α : Type} : ∀ (l : List α) (n : Nat), lenGe l n = true ↔ n <= l.length
 | l, 0 => by cases l <;> simp [lenGe]
 | [], n + 1 => by simp [lenGe]
 | _ :: l, n + 1 => by simp [lenGe, lenGe_iff l n]

instance (priority := high) lenDec {α : Type} (l : List α) (n : Nat) : Decidable (n <= l.length) := decidable_of_iff _ (lenGe_iff l n)

def put2 {α : Type} (l : List α) (off : Nat) (c : List α) : List α := l.take off ++ c ++ l.drop (off + c.length)

def chunk (sz : Nat) : Nat -> List TV -> List TV
 | 0, _ => []
 | n + 1, l => .agg (l.take sz) :: chunk sz n (l.drop sz)

def elems (sz : Nat) (ag : Bool) (n : Nat) (l : List TV) : List TV := if ag then chunk sz n l else l

abbrev Env := List (Nat × TV)
def get : Env -> Nat -> Option TV
 | [], _ => none
 | (k, v) :: r, s => if k = s then some v else get r s
def keepE (ks : List Nat) (e : Env) : Env := ks.filterMap fun s => (get e s).map fun v => (s, v)
def putE (e : Env) (d : Option Nat) (v : TV) : Env := match d with | some s => (s, v) :: e | none => e

inductive Ex where
 | normal | exit (id : Nat) | ret
 deriving DecidableEq, Inhabited

inductive Opnd where
 | t (s : Nat)
 | c (v : TV)
 | g (n : Nat)
 deriving Inhabited

inductive CMode where
 | sh
 | pu (keep : List Bool)
 | gr
 | so
 deriving Inhabited

inductive KT where
 | int
 | flat (ks : List Bool)
 deriving Inhabited

inductive DK where
 | mv
 | pick
 | binI (op : BinOp)
 | eqB (neg : Bool)
 | eqN (kd : Nat) (neg : Bool)
 | eqA (neg : Bool) (ks : List Bool)
 | eqS (neg : Bool)
 | notB
 | negI (k : IntKind)
 | xorI
 | conv (k : IntKind)
 | alloc (z : List TV) (ag : Bool)
 | box (ag : Bool)
 | boxV
 | build (z : List TV) (ps : List (Nat × Nat))
 | bsl (byV : Bool) (z : List TV) (ag : Bool) (len : Nat) (ix : List Nat)
 | ld (sz : Nat) (ag : Bool)
 | st (sz : Nat)
 | nilck
 | mkfn (f : Nat) (nf : Nat)
 | mkmap
 | mksl (z : List TV) (ag : Bool) (bytes : Nat)
 | slc (lo hi mx : Bool) (sz : Nat) (ag : Bool)
 | slcA (lo hi mx : Bool) (n sz : Nat) (ag : Bool)
 | fadr (off sz : Nat) (ag : Bool)
 | fld (off sz : Nat) (ag : Bool)
 | ixS (sz : Nat) (ag : Bool)
 | ixA (n sz : Nat) (ag : Bool)
 | idx (n sz : Nat) (ag : Bool)
 | ixStr
 | lkp (kt : KT) (z : TV) (ok : Bool)
 | mset (kt : KT)
 | mkS
 | setS
 | lkS (z : TV) (ok : Bool)
 | rngS
 | cap
 | appz (z : List TV) (ag : Bool) (bytes : Nat)
 | clr (z : List TV)
 | ext (n : Nat)
 | call (m : CMode)
 | app (sz : Nat) (ag : Bool) (bytes : Nat)
 | len (kd : Nat)
 | mxI
 | mnI
 | never
 deriving Inhabited

structure DOper where
 d : Option Nat
 k : DK
 a : List Opnd
 g : Option (Nat × Bool)
 deriving Inhabited

inductive DC where
 | skip
 | reg (ops : List DOper) (keep : List Nat)
 | regd (ops : List DOper) (keep : List Nat) (fr : List (Nat × Nat))
 | seq (x y : DC)
 | seqr (x y : DC)
 | cond (c : Opnd) (x y : DC)
 | block (id : Nat) (x : DC)
 | scope (x : DC)
 | loop (keep : List Nat) (x : DC)
 | exit (id : Nat)
 | ret
 | rfunc (f : Opnd) (params : List Nat) (assign body : DC) (keep : List Nat)
 | mrange (it nx mo out nxt pair : Nat) (ops : List DOper) (kas : List Nat) (y : DC) (keep : List Nat) (z : DC)
 | bad
 deriving Inhabited

inductive RV where
 | t (s : Nat)
 | c (s : Nat) (sz : Nat) (ag : Bool)
 deriving Inhabited

structure DFun where
 np : Nat
 nt : Nat
 body : DC
 res : List RV
 deriving Inhabited

structure ALoop where
 env : Env
 params : List Nat
 assign : DC
 body : DC
 st : LoopState
 pend : Option Ex
 deriving Inhabited

inductive AObj where
 | dead
 | cells (c : List TV) (ag : Bool)
 | map (es : List (TV × TV × Nat)) (clock : Nat)
 | mapS (es : List (Int × TV)) (clock : Nat)
 | iter (mid clock : Nat)
 | loop (L : ALoop)
 deriving Inhabited

abbrev Heap := List AObj

structure Out where
 ex : Ex
 env : Env
 H : Heap
 deriving Inhabited

def DK.isLd : DK -> Bool
 | .ld .. | .slcA .. | .len _ | .lkp .. | .lkS .. => true
 | _ => false

def TV.idOf' : TV -> Option Nat
 | .ref id _ | .sl id .. | .mp id => some id
 | _ => none

def allB {α : Type} (f : α -> α -> Bool) : List α -> List α -> Bool
 | [], [] => true
 | x :: xs, y :: ys => f x y && allB f xs ys
 | _, _ => false

def same : Nat -> TV -> TV -> Bool
 | 0, _, _ => false
 | n + 1, x, y =>
  match x, y with
  | .b p, .b q => p == q
  | .i k p, .i k' q => decide (k = k') && p == q
  | .nilp, .nilp | .nilsl, .nilsl | .nilmap, .nilmap | .nilfn, .nilfn | .nilif, .nilif | .esl, .esl => true
  | .agg l, .agg l' => allB (same n) l l'
  | .fn f fs cs, .fn f' fs' cs' => f == f' && allB (same n) fs fs' && allB (same n) cs cs'
  | .yl i, .yl j | .mp i, .mp j => i == j
  | .ref i o, .ref j o' => i == j && o == o'
  | .sl i o z a l c, .sl i' o' z' a' l' c' => i == i' && o == o' && z == z' && a == a' && l == l' && decide (c = c')
  | .bp b v, .bp b' v' => b == b' && same n v v'
  | .bs b z es, .bs b' z' es' => b == b' && z == z' && allB (same n) es es'
  | _, _ => false

structure Pg where
 F : Nat -> Option DFun
 G : Nat -> Option TV
 S : Nat -> List TV -> Option TV := fun _ _ => none
 Q : Nat -> Option Nat := fun _ => none

abbrev Rec := DC -> Env -> Heap -> Option Out

/-! ### snapshots -/

inductive SM where
 | borrow | keep | fin
 deriving DecidableEq, Inhabited

def SM.flag : SM -> Bool -> Option Bool
 | .borrow, _ => some true
 | .keep, b => some b
 | .fin, b => if b then none else some false

def snap (m : SM) (H : Heap) : Nat -> TV -> Option TV
 | 0, _ => none
 | n + 1, v =>
  match v with
  | .agg l => (mapO (snap m H n) l).map .agg
  | .tup l => (mapO (snap m H n) l).map .tup
  | .fn f fs cs => (mapO (snap m H n) fs).bind fun fs' => (mapO (snap m H n) cs).map fun cs' => .fn f fs' cs'
  | .bp bo x => (m.flag bo).bind fun bo' => (snap m H n x).map fun x' => .bp bo' x'
  | .bs bo sz es => (m.flag bo).bind fun bo' => (mapO (snap m H n) es).map fun es' => .bs bo' sz es'
  | .ref id off =>
   if m = .keep \/ off ≠ 0 then none else
   match H[id]? with
   | some (.cells c ag) =>
    if ag then (mapO (snap m H n) c).map fun c' => .bp (m == .borrow) (.agg c')
    else match c with
     | [x] => (snap m H n x).map fun x' => .bp (m == .borrow) x'
     | _ => none
   | _ => none
  | .sl id off sz ag len _ =>
   if m = .keep then none else
   match H[id]? with
   | some (.cells c _) =>
    if off + len * sz <= c.length /\ (ag = true \/ sz = 1) then (mapO (snap m H n) (elems sz ag len ((c.drop off).take (len * sz)))).map fun es => .bs (m == .borrow) sz es
    else none
   | _ => none
  | .mp _ | .yl _ => none
  | .undef => none
  | x => some x

/-! ### operations -/

def wrapR (k : IntKind) (n : Int) : TV := .i k (k.wrap n)

def binI (op : BinOp) : TV -> TV -> Option TV
 | .i k x, .i k' y =>
  match op with
  | .shl => if y < 0 then none else some (wrapR k (x * 2 ^ (min y.toNat k.bits)))
  | .shr => if y < 0 then none else some (.i k (x.fdiv (2 ^ (min y.toNat k.bits))))
  | op =>
   if k = k' then
    match op with
    | .add => some (wrapR k (x + y))
    | .sub => some (wrapR k (x - y))
    | .mul => some (wrapR k (x * y))
    | .quo => if y = 0 then none else some (wrapR k (x.tdiv y))
    | .rem => if y = 0 then none else some (.i k (x.tmod y))
    | .and => some (wrapR k (BitVec.ofInt k.bits x &&& BitVec.ofInt k.bits y).toNat)
    | .or => some (wrapR k (BitVec.ofInt k.bits x ||| BitVec.ofInt k.bits y).toNat)
    | .xor => some (wrapR k (BitVec.ofInt k.bits x ^^^ BitVec.ofInt k.bits y).toNat)
    | .andNot => some (wrapR k (BitVec.ofInt k.bits x &&& ~~~ BitVec.ofInt k.bits y).toNat)
    | .eql => some (.b (x == y))
    | .neq => some (.b (x != y))
    | .lss => some (.b (x < y))
    | .leq => some (.b (x <= y))
    | .gtr => some (.b (x > y))
    | .geq => some (.b (x ≥ y))
    | _ => none
   else none
 | _, _ => none

def eqS : Bool -> TV -> TV -> Option Bool
 | true, .i k x, .i k' y => if k = k' then some (x == y) else none
 | false, .b x, .b y => some (x == y)
 | _, _, _ => none

def eqL : List Bool -> List TV -> List TV -> Option Bool
 | [], [], [] => some true
 | c :: ks, x :: xs, y :: ys => (eqS c x y).bind fun e => (eqL ks xs ys).map fun r => e && r
 | _, _, _ => none

def eqK : KT -> TV -> TV -> Option Bool
 | .flat ks, .agg xs, .agg ys => eqL ks xs ys
 | .int, x, y => eqS true x y
 | _, _, _ => none

def isNil (kd : Nat) (x : TV) : Option Bool :=
 match kd with
 | 0 => match x with | .nilsl => some true | .sl .. | .esl | .bs .. => some false | _ => none
 | 1 => match x with | .nilmap => some true | .mp _ => some false | _ => none
 | 2 => match x with | .nilp => some true | .ref .. | .bp .. => some false | _ => none
 | _ => match x with | .nilfn => some true | .fn .. | .yl _ => some false | _ => none

def negb (neg : Bool) (x : Bool) : Bool := if neg then !x else x

def part (sz : Nat) (ag : Bool) (off : Nat) (l : List TV) : Option TV :=
 if ag then (if off + sz <= l.length then some (.agg ((l.drop off).take sz)) else none) else l[off]?.bind fun v => if v.isAgg then none else some v

def fillP : List TV -> List (Nat × Nat) -> List TV -> Option (List TV)
 | z, [], [] => some z
 | z, (off, sz) :: ps, v :: vs => if v.cells.length = sz /\ v.cells.all TV.one /\ off + sz <= z.length then fillP (put2 z off v.cells) ps vs else none
 | _, _, _ => none

def repl (z : List TV) (n : Nat) : List TV :=
 match z with
 | [x] => List.replicate n x
 | z => (List.replicate n z).flatten

def bound (x : TV) : Option Nat :=
 match x with
 | .i _ n => if 0 <= n then some n.toNat else none
 | _ => none

def bounds3 (lo hi mx : Bool) (len : Nat) : List TV -> Option (Nat × Nat × Option Nat)
 | vs =>
  let l := if lo then vs.head?.bind bound else some 0
  let vs := if lo then vs.drop 1 else vs
  let h := if hi then vs.head?.bind bound else some len
  let vs := if hi then vs.drop 1 else vs
  let m := if mx then (vs.head?.bind bound).map some else some none
  l.bind fun l => h.bind fun h => m.bind fun m => if l <= h then some (l, h, m) else none

def slcRun (lo hi mx : Bool) (sz : Nat) (ag : Bool) (x : TV) (vs : List TV) : Option TV :=
 match x with
 | .nilsl => (bounds3 lo hi mx 0 vs).bind fun (_, h, m) => if h = 0 /\ m.getD 0 = 0 then some .nilsl else none
 | .esl => (bounds3 lo hi mx 0 vs).bind fun (_, h, m) => if h = 0 /\ m.getD 0 = 0 then some .esl else none
 | .bs bo sz' es =>
  (bounds3 lo hi mx es.length vs).bind fun (l, h, m) =>
   if sz' = sz /\ h <= es.length /\ h <= m.getD h /\ m.getD h <= es.length then
    if m = some l then some .esl else some (.bs bo sz' ((es.drop l).take (h - l)))
   else none
 | .sl id off sz' ag' len cap =>
  (bounds3 lo hi mx len vs).bind fun (l, h, m) =>
   if sz' = sz /\ h <= m.getD h /\ m.getD h <= cap.getD len then
    if m = some l then some .esl
    else some (.sl id (off + l * sz) sz ag (h - l) (match m with | some m => some (m - l) | none => cap.map (· - l)))
   else none
 | _ => none

def slcARun (lo hi mx : Bool) (n sz : Nat) (ag : Bool) (x : TV) (vs : List TV) (H : Heap) : Option TV :=
 (bounds3 lo hi mx n vs).bind fun (l, h, m) =>
  if h <= m.getD h /\ m.getD h <= n then
   match x with
   | .ref id off =>
    match H[id]? with
    | some (.cells c _) => if off + n * sz <= c.length then (if m.getD n = l then some .esl else some (.sl id (off + l * sz) sz ag (h - l) (some (m.getD n - l)))) else none
    | _ => none
   | .bp bo (.agg c) => if sz = 1 /\ ag = false /\ c.length = n /\ c.all TV.one then (if m.getD n = l then some .esl else some (.bs bo 1 ((c.drop l).take (h - l)))) else none
   | _ => none
  else none

def lenOf : TV -> Heap -> Option Nat
 | .nilsl, _ | .esl, _ | .nilmap, _ => some 0
 | .sl _ _ _ _ n _, _ => some n
 | .bs _ _ es, _ => some es.length
 | .s x, _ => some x.size
 | .mp id, H => match H[id]? with | some (.map es _) => some es.length | _ => none
 | _, _ => none

def lenK (kd : Nat) (x : TV) (H : Heap) : Option Nat :=
 match kd, x with
 | 0, .nilsl | 0, .esl => some 0
 | 0, .sl _ _ _ _ n _ => some n
 | 0, .bs _ _ es => some es.length
 | 1, .s x => some x.size
 | 2, .nilmap => some 0
 | 2, .mp id => match H[id]? with | some (.map es _) => some es.length | _ => none
 | _, _ => none

def flatOf (sz : Nat) : TV -> Heap -> Option (List TV)
 | .nilsl, _ | .esl, _ => some []
 | .bs _ sz' es, _ => if sz' = sz then some (es.flatMap TV.cells) else none
 | .sl id off sz' _ len _, H =>
  match H[id]? with
  | some (.cells c _) => if sz' = sz /\ off + len * sz <= c.length then some ((c.drop off).take (len * sz)) else none
  | _ => none
 | _, _ => none

def appRun (sz : Nat) (ag : Bool) (bytes : Nat) (s x : TV) (H : Heap) : Option (TV × Heap) :=
 (lenOf x H).bind fun n => (flatOf sz x H).bind fun xs => (lenOf s H).bind fun l =>
  if (l + n) * bytes <= 140737488355328 /\ xs.all TV.one /\ xs.length = n * sz then
   match s with
   | .nilsl | .esl => if n = 0 then some (s, H) else some (.sl H.length 0 sz ag n none, H ++ [.cells xs false])
   | .sl id off sz' ag' len cap =>
    if n = 0 then some (s, H) else
    if sz' = sz then
     match H[id]? with
     | some (.cells c ag0) =>
      if off + len * sz <= c.length then
       match cap with
       | some k =>
        if len + n <= k then
         if off + (len + n) * sz <= c.length then some (.sl id off sz ag (len + n) cap, H.set id (.cells (put2 c (off + len * sz) xs) ag0)) else none
        else some (.sl H.length 0 sz ag (len + n) none, H ++ [.cells ((c.drop off).take (len * sz) ++ xs) false])
       | none => some (.sl H.length 0 sz ag (len + n) none, H.set id .dead ++ [.cells ((c.drop off).take (len * sz) ++ xs) false])
      else none
     | _ => none
    else none
   | _ => none
  else none

def findK (kt : KT) (k : TV) : List (TV × TV × Nat) -> Option (Option (Nat × TV))
 | [] => some none
 | (k', v, _) :: r => (eqK kt k k').bind fun e => if e then some (some (0, v)) else (findK kt k r).map fun o => o.map fun (i, v) => (i + 1, v)

def insS (k : Int) (v : TV) : List (Int × TV) -> List (Int × TV)
 | [] => [(k, v)]
 | (a, x) :: r => if k < a then (k, v) :: (a, x) :: r else if k = a then (k, v) :: r else (a, x) :: insS k v r

def lookS (k : Int) : List (Int × TV) -> Option TV
 | [] => none
 | (a, x) :: r => if k = a then some x else lookS k r

def foldI (f : Int -> Int -> Int) : TV -> List TV -> Option TV
 | .i k x, [] => some (.i k x)
 | .i k x, .i k' y :: r => if k = k' then foldI f (.i k (f x y)) r else none
 | _, _ => none

def dk : DK -> List TV -> Heap -> Option (TV × Heap)
 | .mv, [x], H => some (x, H)
 | .pick, [.b c, a, b], H => some (if c then a else b, H)
 | .binI op, [x, y], H => (binI op x y).map fun v => (v, H)
 | .eqB neg, [.b x, .b y], H => some (.b (negb neg (x == y)), H)
 | .eqN kd neg, [x, y], H => (isNil kd x).bind fun p => (isNil kd y).bind fun q => if p || q then some (.b (negb neg (p && q)), H) else none
 | .eqA neg ks, [.agg x, .agg y], H => (eqL ks x y).map fun e => (.b (negb neg e), H)
 | .eqS neg, [.s x, .s y], H => some (.b (negb neg (x.toList == y.toList)), H)
 | .notB, [.b x], H => some (.b (!x), H)
 | .negI k, [.i k' x], H => if k = k' then some (wrapR k (0 - x), H) else none
 | .xorI, [.i k x], H => some (wrapR k (BitVec.ofInt k.bits (if k.signed then -1 else k.max) ^^^ BitVec.ofInt k.bits x).toNat, H)
 | .conv k, [.i _ n], H => some (wrapR k n, H)
 | .alloc z ag, [], H => some (.ref H.length 0, H ++ [.cells z ag])
 | .box ag, [x], H => if x.cells.all TV.one /\ x.isAgg = ag then some (.ref H.length 0, H ++ [.cells x.cells ag]) else none
 | .boxV, [x], H => if x.cells.all TV.one then some (.bp false x, H) else none
 | .build z ps, vs, H => (fillP z ps vs).map fun l => (.agg l, H)
 | .bsl byV z ag len ix, vs, H =>
  if ag = true \/ z.length = 1 then
   (fillP (repl z len) (ix.map fun i => (i * z.length, z.length)) vs).bind fun l =>
    if l.all TV.one then
     if byV then some (.bs false z.length (elems z.length ag len l), H) else some (.sl H.length 0 z.length ag len (some len), H ++ [.cells l false])
    else none
  else none
 | .ld sz ag, [.ref id off], H =>
  match H[id]? with
  | some (.cells c _) => (part sz ag off c).map fun v => (v, H)
  | _ => none
 | .ld sz ag, [.bp _ v], H =>
  match v with
  | .agg l => if ag /\ l.length = sz then some (v, H) else none
  | v => if ag then none else some (v, H)
 | .st sz, [.ref id off, v], H =>
  match H[id]? with
  | some (.cells c ag) => if v.cells.length = sz /\ v.cells.all TV.one /\ off + sz <= c.length then some (.undef, H.set id (.cells (put2 c off v.cells) ag)) else none
  | _ => none
 | .nilck, [x], H => match x with | .ref .. | .bp .. | .fn .. | .yl _ => some (x, H) | _ => none
 | .mkfn f nf, vs, H => if nf <= vs.length then some (.fn f (vs.take nf) (vs.drop nf), H) else none
 | .mkmap, vs, H => match vs with | [] | [.i _ _] => some (.mp H.length, H ++ [.map [] 0]) | _ => none
 | .mksl z ag bytes, [l, c], H =>
  (bound l).bind fun l => (bound c).bind fun c =>
   if l <= c /\ bytes * c <= 140737488355328 /\ c <= 140737488355328 then some (.sl H.length 0 z.length ag l (some c), H ++ [.cells (repl z c) false]) else none
 | .slc lo hi mx sz ag, x :: vs, H => (slcRun lo hi mx sz ag x vs).map fun v => (v, H)
 | .slcA lo hi mx n sz ag, x :: vs, H => (slcARun lo hi mx n sz ag x vs H).map fun v => (v, H)
 | .fadr off sz ag, [x], H =>
  match x with
  | .ref id o => some (.ref id (o + off), H)
  | .bp bo (.agg l) => (part sz ag off l).map fun v => (.bp bo v, H)
  | _ => none
 | .fld off sz ag, [.agg l], H => (part sz ag off l).map fun v => (v, H)
 | .ixS sz ag, [x, i], H =>
  (bound i).bind fun i =>
   match x with
   | .sl id off sz' _ len _ => if i < len /\ sz' = sz then some (.ref id (off + i * sz), H) else none
   | .bs bo sz' es => if sz' = sz then (es[i]?).map fun e => (.bp bo e, H) else none
   | _ => none
 | .ixA n sz ag, [x, i], H =>
  (bound i).bind fun i =>
   if i < n then
    match x with
    | .ref id off => some (.ref id (off + i * sz), H)
    | .bp bo (.agg l) => (part sz ag (i * sz) l).map fun v => (.bp bo v, H)
    | _ => none
   else none
 | .idx n sz ag, [.agg l, i], H => (bound i).bind fun i => if i < n then (part sz ag (i * sz) l).map fun v => (v, H) else none
 | .ixStr, [.s x, i], H => (bound i).bind fun i => (x[i]?).map fun b => (.i .u8 (b.toNat : Int), H)
 | .lkp kt z ok, [m, k], H =>
  let ans (v : TV) (o : Bool) : TV := if ok then .tup [v, .b o] else v
  match m with
  | .nilmap => (eqK kt k k).map fun _ => (ans z false, H)
  | .mp id =>
   match H[id]? with
   | some (.map es _) => (eqK kt k k).bind fun _ => (findK kt k es).map fun r => match r with | some (_, v) => (ans v true, H) | none => (ans z false, H)
   | _ => none
  | _ => none
 | .mset kt, [.mp id, k, v], H =>
  match H[id]? with
  | some (.map es ck) =>
   (eqK kt k k).bind fun _ => (findK kt k es).map fun r =>
    match r with
    | some (i, _) => (.undef, H.set id (.map (es.modify i fun e => (k, v, e.2.2)) ck))
    | none => (.undef, H.set id (.map (es ++ [(k, v, ck)]) (ck + 1)))
  | _ => none
 | .mkS, vs, H => match vs with | [] | [.i _ _] => some (.mp H.length, H ++ [.mapS [] 0]) | _ => none
 | .lkS z ok, [m, k], H =>
  let ans (v : TV) (o : Bool) : TV := if ok then .tup [v, .b o] else v
  match m, k with
  | .mp id, .i .i64 n =>
   match H[id]? with
   | some (.mapS es _) => (match lookS n es with | some v => some (ans v true, H) | none => some (ans z false, H))
   | _ => none
  | _, _ => none
 | .setS, [.mp id, .i .i64 n, v], H =>
  match H[id]? with
  | some (.mapS es ck) => some (.undef, H.set id (.mapS (insS n v es) (if (lookS n es).isSome then ck else ck + 1)))
  | _ => none
 | .rngS, [.mp id], H =>
  match H[id]? with
  | some (.mapS _ ck) => some (.ref H.length 0, H ++ [.iter id ck])
  | _ => none
 | .appz z ag bytes, [.nilsl, .i .i64 n], H =>
  if 0 < n /\ n * bytes <= 140737488355328 /\ 0 < bytes /\ 0 < z.length /\ z.all TV.one then some (.sl H.length 0 z.length ag n.toNat none, H ++ [.cells (repl z n.toNat) false]) else none
 | .cap, [x], H =>
  match x with
  | .nilsl | .esl => some (.i .i64 0, H)
  | .sl _ _ _ _ _ (some c) => some (.i .i64 (c : Int), H)
  | _ => none
 | .clr z, [x], H =>
  match x with
  | .nilsl | .esl => some (.tup [], H)
  | .sl id off sz _ len _ =>
   if len = 0 then some (.tup [], H) else
   match H[id]? with
   | some (.cells c ag) => if sz = z.length /\ z.all TV.one /\ off + len * sz <= c.length then some (.tup [], H.set id (.cells (put2 c off (repl z len)) ag)) else none
   | _ => none
  | _ => none
 | .ext n, [.tup l], H => (l[n]?).map fun v => (v, H)
 | .app sz ag bytes, [s, x], H => appRun sz ag bytes s x H
 | .len kd, [x], H => (lenK kd x H).map fun (n : Nat) => (.i .i64 (n : Int), H)
 | .mxI, x :: xs, H => (foldI (fun x y => if y > x then y else x) x xs).map fun v => (v, H)
 | .mnI, x :: xs, H => (foldI (fun x y => if y < x then y else x) x xs).map fun v => (v, H)
 | _, _, _ => none

/-! ### code -/
section
variable (pg : Pg) (R : Rec)

def evalO (e : Env) : Opnd -> Option TV
 | .t s => get e s
 | .c v => some v
 | .g n => (pg.G n).map (.bp false)

def resRun (e : Env) (H : Heap) : RV -> Option TV
 | .t s => get e s
 | .c s sz ag => (get e s).bind fun p => (dk (.ld sz ag) [p] H).map (·.1)

def zipE : List TV -> Nat -> Env
 | [], _ => []
 | v :: vs, n => (n, v) :: zipE vs (n + 1)

def bodyRun (f : Nat) (args : List TV) (H : Heap) : Option (TV × Heap) :=
 (pg.F f).bind fun d =>
  if args.length = d.np then
   (R d.body (zipE args 0) H).bind fun o =>
    match o.ex with
    | .exit _ => none
    | _ => (mapO (resRun o.env o.H) d.res).map fun vs => ((match vs with | [v] => v | vs => .tup vs), o.H)
  else none

def yieldRun (id : Nat) (args : List TV) (H : Heap) : Option (TV × Heap) :=
 match H[id]? with
 | some (.loop L) =>
  if L.params.length = args.length then
   (R L.assign ((L.params.zip args).reverse ++ L.env) H).bind fun o1 =>
    match o1.ex, o1.H[id]? with
    | .normal, some (.loop L1) =>
     if L1.st = .ready then
      (R L.body o1.env (o1.H.set id (.loop { L1 with st := .busy }))).bind fun o2 =>
       match o2.H[id]? with
       | some (.loop L2) =>
        match o2.ex with
        | .normal => some (.b true, o2.H.set id (.loop { L2 with st := .ready, pend := none }))
        | e => some (.b false, o2.H.set id (.loop { L2 with st := .done, pend := some e }))
       | _ => none
     else none
    | _, _ => none
  else none
 | _ => none

/-! a call as a function of values whose rows of scalars become the caller's own -/
def TV.scal : TV -> Bool
 | .i .. | .b _ => true
 | _ => false
def grO : AObj -> AObj
 | .cells c ag => .cells (c.takeWhile TV.scal) ag
 | _ => .dead
def grV (n : Nat) : TV -> Option TV
 | .i k x => some (.i k x)
 | .b x => some (.b x)
 | .nilsl => some .nilsl
 | .sl id off sz ag len cap => some (.sl (n + id) off sz ag len cap)
 | _ => none
def grR (n : Nat) : TV -> Option TV
 | .tup l => (mapO (grV n) l).map .tup
 | v => grV n v

def snapArgs (H : Heap) : List Bool -> List TV -> Option (List TV)
 | _, [] => some []
 | ks, v :: vs => (snap (if ks.headD false then .keep else .borrow) H 9 v).bind fun v' => (snapArgs H ks.tail vs).map fun vs' => v' :: vs'

/-! rows sorted by a function value -/
def cmpRun (H0 : Heap) (g : Nat) (cs : List TV) (x y : TV) : Option Int :=
 (snapArgs H0 [] ([x, y] ++ cs)).bind fun ags => (bodyRun pg R g ags []).bind fun p => match p.1 with | .i .i64 n => some n | _ => none

def cfT (T : List (List Int)) (n : Nat) (i j : Nat) : Int := (T.getD (min i (n - 1)) []).getD (min j (n - 1)) 0
def ltT (T : List (List Int)) (n : Nat) (i j : Nat) : Bool := decide (cfT T n i j < 0)
def sorted (T : List (List Int)) (n : Nat) : List Nat := (Go.Sort.pdq (ltT T n) (Array.range n) 0 n (Go.Lib.bitLen n) true true).toList
def elAt (sz off : Nat) (c : List TV) (i : Nat) : List TV := (c.drop (off + i * sz)).take sz

open Classical in
noncomputable def sortRun (f : Nat) (args : List TV) (H : Heap) : Option (TV × Heap) :=
 (pg.Q f).bind fun k =>
  match args with
  | [.nilsl, .fn _ _ _] | [.esl, .fn _ _ _] => some (.tup [], H)
  | [.sl id off sz ag len _, .fn g fs cs] =>
   if len = 0 then some (.tup [], H) else
   match H[id]? with
   | some (.cells c ag') =>
    if sz = k /\ 0 < sz /\ fs = [] /\ len < 4611686018427387904 /\ off + len * sz <= c.length then
     (mapO (fun i => mapO (fun j => cmpRun pg R (H.set id .dead) g cs (.agg (elAt sz off c i)) (.agg (elAt sz off c j))) (List.range len)) (List.range len)).bind fun T =>
      if Go.Sort.SWO (ltT T len) then some (.tup [], H.set id (.cells (put2 c off ((sorted T len).flatMap (elAt sz off c))) ag')) else none
    else none
   | _ => none
  | _ => none

noncomputable def callRun (m : CMode) (vs : List TV) (H : Heap) : Option (TV × Heap) :=
 match vs with
 | .fn f fs cs :: args =>
  match m with
  | .sh => bodyRun pg R f (fs ++ args ++ cs) H
  | .so => if fs = [] /\ cs = [] then sortRun pg R f args H else none
  | .gr => (snapArgs H [] (fs ++ args ++ cs)).bind fun ags => (bodyRun pg R f ags []).bind fun (r, H') => (grR H.length r).map fun r' => (r', H ++ H'.map grO)
  | .pu ks => (snapArgs H ks (fs ++ args ++ cs)).bind fun ags =>
   match pg.S f ags with
   | some r => some (r, H)
   | none => (bodyRun pg R f ags []).bind fun (r, H') => (snap .fin H' 9 r).map fun r' => (r', H)
 | .yl id :: args => match m with | .sh => yieldRun R id args H | _ => none
 | _ => none

def guardRun (e : Env) : Option (Nat × Bool) -> Option Bool
 | none => some true
 | some (s, want) => match get e s with | some (.b x) => some (x == want) | some .undef => some false | _ => none

noncomputable def operRun (o : DOper) (e : Env) (H : Heap) : Option (Env × Heap) :=
 (guardRun e o.g).bind fun go =>
  if go then
   (mapO (evalO pg e) o.a).bind fun vs =>
    (match o.k with
     | .call m => callRun pg R m vs H
     | k => dk k vs H).map fun (v, H') => (putE e o.d v, H')
  else some (putE e o.d .undef, H)

noncomputable def opsRun : List DOper -> Env -> Heap -> Option (Env × Heap)
 | [], e, H => some (e, H)
 | o :: os, e, H => (operRun pg R o e H).bind fun (e', H') => opsRun os e' H'

noncomputable def opsTr : List DOper -> Env -> Heap -> Option (Env × List Heap × Heap)
 | [], e, H => some (e, [H], H)
 | o :: os, e, H => (operRun pg R o e H).bind fun (e', H') => (opsTr os e' H').map fun (e2, hs, H2) => (e2, H :: hs, H2)

def ldSame (o : DOper) (e : Env) (K : Option Heap) : Bool :=
 match guardRun e o.g with
 | some true =>
  match mapO (evalO pg e) o.a, o.d.bind (get e), K with
  | some vs, some v, some K => (match dk o.k vs K with | some (u, _) => same 9 u v | none => false)
  | _, _, _ => false
 | some false => true
 | none => false

def stElse (x o : DOper) (e : Env) : Bool :=
 match guardRun e o.g with
 | some true =>
  match x.a with
  | .t p :: _ =>
   match get e p, (o.d.bind (get e)).bind TV.idOf' with
   | some (.ref i _), some j | some (.mp i), some j => i != j
   | some .undef, some _ => true
   | _, _ => false
  | _ => false
 | some false => true
 | none => false

def frOk (ops : List DOper) (e : Env) (hs : List Heap) (fr : List (Nat × Nat)) : Bool :=
 fr.all fun p =>
  match ops[p.1]?, ops[p.2]? with
  | some x, some o => if o.k.isLd then ldSame pg o e hs[p.1]? && ldSame pg o e hs[p.1 + 1]? else stElse x o e
  | _, _ => false

def isIt : Option TV -> Nat -> Bool
 | some (.ref i 0), id => i == id
 | _, _ => false

def mfold (r : Env -> Heap -> Option Out) (it id pair : Nat) (ks : List Nat) : List (Int × TV) -> Env -> Heap -> Option (Env × Heap)
 | [], e, H => some (e, H)
 | (k, v) :: l, e, H => (r ((pair, .tup [.i .i64 k, v]) :: e) H).bind fun o => if o.ex = .normal /\ isIt (get o.env it) id = true then mfold r it id pair ks l (keepE ks o.env) o.H else none

def mthen (r z : Env -> Heap -> Option Out) (it id pair : Nat) (ks : List Nat) (mid : Nat) (es : List (Int × TV)) (ck : Nat) (e : Env) (H : Heap) (l : List (Int × TV)) : Option Out :=
 (mfold r it id pair ks l e H).bind fun p => z p.1 (p.2.set mid (.mapS es ck))

noncomputable def mround (pg : Pg) (R : Rec) (nxt : Nat) (ops : List DOper) (kas : List Nat) (y : Env -> Heap -> Option Out) (e : Env) (H : Heap) : Option Out :=
 (opsRun pg R ops e H).bind fun p => (y (keepE kas p.1) p.2).map fun o => if o.ex = .exit nxt then { o with ex := .normal } else o

open Classical in
noncomputable def permOk {α β : Type} (f : List α -> Option β) (l : List α) : Bool := if l.length <= 1 then true else decide (∀ p : List α, p.Perm l -> f p = f l)

noncomputable def runC : DC -> Env -> Heap -> Option Out
 | .skip, e, H => some ⟨.normal, e, H⟩
 | .reg ops ks, e, H => (opsRun pg R ops e H).map fun (e', H') => ⟨.normal, keepE ks e', H'⟩
 | .regd ops ks fr, e, H => (opsTr pg R ops e H).bind fun (e', hs, H') => if frOk pg ops e' hs fr then some ⟨.normal, keepE ks e', H'⟩ else none
 | .seq x y, e, H => (runC x e H).bind fun o => if o.ex = .normal then runC y o.env o.H else some o
 | .seqr x y, e, H => (runC x e H).bind fun o => if o.ex = .normal then runC y o.env o.H else some o
 | .cond c x y, e, H => match evalO pg e c with | some (.b t) => (if t then runC x e H else runC y e H) | _ => none
 | .block id x, e, H => (runC x e H).map fun o => if o.ex = .exit id then { o with ex := .normal } else o
 | .scope x, e, H => runC x e H
 | .loop ks x, e, H => (runC x (keepE ks e) H).bind fun o => if o.ex = .normal then R (.loop ks x) o.env o.H else some o
 | .exit id, e, H => some ⟨.exit id, e, H⟩
 | .ret, e, H => some ⟨.ret, e, H⟩
 | .rfunc f ps ags bd ks, e, H =>
  (evalO pg e f).bind fun fv =>
   (callRun pg R .sh [fv, .yl H.length] (H ++ [.loop { env := keepE ks e, params := ps, assign := ags, body := bd, st := .ready, pend := none }])).bind fun (_, H2) =>
    match H2[H.length]? with
    | some (.loop L) =>
     if L.st = .busy then none else
      some ⟨L.pend.getD .normal, keepE ks e, H2.set H.length (.loop { L with st := .exhausted })⟩
    | _ => none
 | .mrange it nx mo out nxt pair ops kas y ks z, e, H =>
  match get e it with
  | some (.ref id 0) =>
   match H[id]? with
   | some (.iter mid ck) =>
    match H[mid]? with
    | some (.mapS es ck') =>
     if ck = ck' then
      if permOk (mthen (mround pg R nxt ops kas (runC y)) (runC z) it id pair ks mid es ck (keepE ks e) ((H.set id .dead).set mid .dead)) es then
       mthen (mround pg R nxt ops kas (runC y)) (runC z) it id pair ks mid es ck (keepE ks e) ((H.set id .dead).set mid .dead) es else none
     else none
    | _ => none
   | _ => none
  | _ => none
 | .bad, _, _ => none
end

noncomputable def denN (pg : Pg) : Nat -> Rec
 | 0 => fun _ _ _ => none
 | n + 1 => fun c e H => runC pg (denN pg n) c e H

end Go.Dn

/-
 The relation between abstract values and the model's values and memory; what becomes of it while memory grows.
-/

namespace Go.Dn

abbrev PMap := Nat -> Option (Nat × Nat)

def MemAt (w : World) (g off : Nat) (us : List Value) : Prop := ∀ j u, us[j]? = some u -> w.cell? ⟨g, off + j, none⟩ = some u

mutual
inductive VRel (π : PMap) (w : World) (av ex : Nat -> Prop) : TV -> Value -> Prop
 | undef : VRel π w av ex .undef Go.undef
 | b (x : Bool) : VRel π w av ex (.b x) (.bool x)
 | i (k : IntKind) (n : Int) : VRel π w av ex (.i k n) (.int k n)
 | s (x : ByteArray) : VRel π w av ex (.s x) (.string x)
 | nilp : VRel π w av ex .nilp (.pointer none)
 | nilsl : VRel π w av ex .nilsl (.slice none 0 0)
 | nilmap : VRel π w av ex .nilmap (.map none)
 | nilfn : VRel π w av ex .nilfn .nilFunc
 | nilif : VRel π w av ex .nilif .nilIface
 | agg (l : List TV) (cs : Array Value) (h : VsRel π w av ex l cs.toList) : VRel π w av ex (.agg l) (.agg cs)
 | tup (l : List TV) (cs : Array Value) (h : VsRel π w av ex l cs.toList) : VRel π w av ex (.tup l) (.tuple cs)
 | fn (f : Nat) (fs cs : List TV) (fa ca : Array Value) (h1 : VsRel π w av ex fs fa.toList) (h2 : VsRel π w av ex cs ca.toList) : VRel π w av ex (.fn f fs cs) (.func (.func f) fa ca)
 | yl (id g : Nat) (h : π id = some (g, 0)) : VRel π w av ex (.yl id) (.func (.yield g) #[] #[])
 | ref (id off g sh : Nat) (h : π id = some (g, sh)) : VRel π w av ex (.ref id off) (.pointer (some ⟨g, sh + off, none⟩))
 | sl (id off sz : Nat) (ag : Bool) (len : Nat) (cap : Option Nat) (g sh c : Nat) (cc : Array Value) (el : TypeId) (fr : Nat × Nat)
   (h : π id = some (g, sh)) (hb : w.heap[g]? = some (.cells cc el fr)) (hl : len <= c) (hc : ∀ k, cap = some k -> k = c) (hs : sh + off + c * sz <= cc.size) :
   VRel π w av ex (.sl id off sz ag len cap) (.slice (some ⟨g, sh + off, none⟩) len c)
 | sl0 (id off sz : Nat) (ag : Bool) (cap : Option Nat) (a : Addr) (hc : ∀ k, cap = some k -> k = 0) : VRel π w av ex (.sl id off sz ag 0 cap) (.slice (some a) 0 0)
 | esl (a : Addr) : VRel π w av ex .esl (.slice (some a) 0 0)
 | mp (id g : Nat) (h : π id = some (g, 0)) : VRel π w av ex (.mp id) (.map (some g))
 | bp (bo : Bool) (v : TV) (g off : Nat) (us : List Value) (h : VsRel π w av ex v.cells us) (hm : MemAt w g off us) (ha : us ≠ [] -> ¬ av g /\ (bo = false -> ¬ ex g)) :
   VRel π w av ex (.bp bo v) (.pointer (some ⟨g, off, none⟩))
 | bs (bo : Bool) (sz : Nat) (es : List TV) (g off c : Nat) (us : List Value) (h : VsRel π w av ex (es.flatMap TV.cells) us) (hz : ∀ e, e ∈ es -> e.cells.length = sz) (hm : MemAt w g off us)
   (ha : us ≠ [] -> ¬ av g /\ (bo = false -> ¬ ex g)) (hl : es.length <= c) : VRel π w av ex (.bs bo sz es) (.slice (some ⟨g, off, none⟩) es.length c)
 | bs0 (bo : Bool) (sz : Nat) (a : Addr) (c : Nat) : VRel π w av ex (.bs bo sz []) (.slice (some a) 0 c)
inductive VsRel (π : PMap) (w : World) (av ex : Nat -> Prop) : List TV -> List Value -> Prop
 | nil : VsRel π w av ex [] []
 | cons (t : TV) (v : Value) (ts : List TV) (vs : List Value) (h : VRel π w av ex t v) (hs : VsRel π w av ex ts vs) : VsRel π w av ex (t :: ts) (v :: vs)
end

structure Ev (wr : Nat -> Prop) (π : PMap) (w : World) (av : Nat -> Prop) (π' : PMap) (w' : World) (av' : Nat -> Prop) : Prop where
 map : ∀ id p, π id = some p -> π' id = some p
 blk : ∀ g, g < w.heap.size -> ¬ wr g -> w'.heap[g]? = w.heap[g]?
 siz : ∀ (g : Nat) (cc : Array Value) (el : TypeId) (fr : Nat × Nat), w.heap[g]? = some (Obj.cells cc el fr) -> ∃ cc' : Array Value, w'.heap[g]? = some (Obj.cells cc' el fr) /\ cc'.size = cc.size
 lop : ∀ (g : Nat) (r : Loop), w.heap[g]? = some (Obj.loop r) -> ∃ r' : Loop, w'.heap[g]? = some (Obj.loop r')
 sub : ∀ g, g < w.heap.size -> av' g -> av g
 len : w.heap.size <= w'.heap.size
 os : w'.os = w.os
 tape : w'.tape = w.tape /\ w.drawn <= w'.drawn
 out : w'.output = w.output

theorem Ev.refl (wr : Nat -> Prop) (π : PMap) (w : World) (av : Nat -> Prop) : Ev wr π w av π w av :=
 ⟨fun _ _ h => h, fun _ _ _ => rfl, fun _ cc _ _ h => ⟨cc, h, rfl⟩, fun _ r h => ⟨r, h⟩, fun _ _ h => h, Nat.le_refl _, rfl, ⟨rfl, Nat.le_refl _⟩, rfl⟩

theorem Ev.trans {wr wr' : Nat -> Prop} {π π1 π2 : PMap} {w w1 w2 : World} {av av1 av2 : Nat -> Prop} (h : Ev wr π w av π1 w1 av1) (h' : Ev wr' π1 w1 av1 π2 w2 av2)
  (hw : ∀ g, g < w.heap.size -> wr' g -> wr g) : Ev wr π w av π2 w2 av2 where
 map id p e := h'.map id p (h.map id p e)
 blk g hg hn := (h'.blk g (Nat.lt_of_lt_of_le hg h.len) fun x => hn (hw g hg x)).trans (h.blk g hg hn)
 siz g cc el fr e := by
  obtain ⟨c1, e1, s1⟩ := h.siz g cc el fr e
  obtain ⟨c2, e2, s2⟩ := h'.siz g c1 el fr e1
  exact ⟨c2, e2, s2.trans s1⟩
 lop g r e := by
  obtain ⟨r1, e1⟩ := h.lop g r e
  exact h'.lop g r1 e1
 sub g hg x := h.sub g hg (h'.sub g (Nat.lt_of_lt_of_le hg h.len) x)
 len := Nat.le_trans h.len h'.len
 os := h'.os.trans h.os
 tape := ⟨h'.tape.1.trans h.tape.1, Nat.le_trans h.tape.2 h'.tape.2⟩
 out := h'.out.trans h.out

theorem Ev.wider {wr wr' : Nat -> Prop} {π π' : PMap} {w w' : World} {av av' : Nat -> Prop} (h : Ev wr π w av π' w' av') (hw : ∀ g, wr g -> wr' g) : Ev wr' π w av π' w' av' :=
 {h with blk := fun g hg hn => h.blk g hg fun x => hn (hw g x) }

theorem lt_of_cell {w : World} {a : Addr} {u : Value} (h : w.cell? a = some u) : a.block < w.heap.size := by
 unfold World.cell? at h
 split at h
 ·rename_i hb
  exact (Array.getElem?_eq_some_iff.1 hb).1
 ·cases h

theorem MemAt.mono {wr : Nat -> Prop} {π π' : PMap} {w w' : World} {av av' : Nat -> Prop} (e : Ev wr π w av π' w' av') {g off : Nat} {us : List Value} (h : MemAt w g off us) (hn : us ≠ [] -> ¬ wr g) : MemAt w' g off us := by
 intro j u hu
 have hc := h j u hu
 have hne : us ≠ [] := by rintro rfl; simp at hu
 have hb := e.blk g (lt_of_cell hc) (hn hne)
 exact (World.cell?_of_block (a := ⟨g, off + j, none⟩) hb).trans hc

theorem MemAt.lt {w : World} {g off : Nat} {us : List Value} (h : MemAt w g off us) (hn : us ≠ []) : g < w.heap.size := by
 cases us with
 | nil => exact absurd rfl hn
 | cons u us => exact lt_of_cell (h 0 u (by simp))

mutual
theorem VRel.mono {wr : Nat -> Prop} {π π' : PMap} {w w' : World} {av av' ex : Nat -> Prop} (e : Ev wr π w av π' w' av') (hw : ∀ g, g < w.heap.size -> wr g -> av g) {t : TV} {v : Value} :
  VRel π w av ex t v -> VRel π' w' av' ex t v
 | .undef => .undef
 | .b x => .b x
 | .i k n => .i k n
 | .s x => .s x
 | .nilp => .nilp
 | .nilsl => .nilsl
 | .nilmap => .nilmap
 | .nilfn => .nilfn
 | .nilif => .nilif
 | .agg l cs h => .agg l cs (VsRel.mono e hw h)
 | .tup l cs h => .tup l cs (VsRel.mono e hw h)
 | .fn f fs cs fa ca h1 h2 => .fn f fs cs fa ca (VsRel.mono e hw h1) (VsRel.mono e hw h2)
 | .yl id g h => .yl id g (e.map _ _ h)
 | .ref id off g sh h => .ref id off g sh (e.map _ _ h)
 | .sl id off sz ag len cap g sh c cc el fr h hb hl hc hs => by
  obtain ⟨cc', e1, e2⟩ := e.siz g cc el fr hb
  exact .sl id off sz ag len cap g sh c cc' el fr (e.map _ _ h) e1 hl hc (by omega)
 | .sl0 id off sz ag cap a hc => .sl0 id off sz ag cap a hc
 | .esl a => .esl a
 | .mp id g h => .mp id g (e.map _ _ h)
 | .bp bo v g off us h hm ha =>
  .bp bo v g off us (VsRel.mono e hw h) (hm.mono e fun hn hx => (ha hn).1 (hw g (hm.lt hn) hx)) fun hn => ⟨fun hx => (ha hn).1 (e.sub g (hm.lt hn) hx), (ha hn).2⟩
 | .bs bo sz es g off c us h hz hm ha hl =>
  .bs bo sz es g off c us (VsRel.mono e hw h) hz (hm.mono e fun hn hx => (ha hn).1 (hw g (hm.lt hn) hx)) (fun hn => ⟨fun hx => (ha hn).1 (e.sub g (hm.lt hn) hx), (ha hn).2⟩) hl
 | .bs0 bo sz a c => .bs0 bo sz a c
theorem VsRel.mono {wr : Nat -> Prop} {π π' : PMap} {w w' : World} {av av' ex : Nat -> Prop} (e : Ev wr π w av π' w' av') (hw : ∀ g, g < w.heap.size -> wr g -> av g) {ts : List TV} {vs : List Value} :
  VsRel π w av ex ts vs -> VsRel π' w' av' ex ts vs
 | .nil => .nil
 | .cons t v ts vs h hs => .cons t v ts vs (VRel.mono e hw h) (VsRel.mono e hw hs)
end

/-! lists -/
theorem VsRel.length {π : PMap} {w : World} {av ex : Nat -> Prop} {ts : List TV} {vs : List Value} (h : VsRel π w av ex ts vs) : ts.length = vs.length := by
 induction ts generalizing vs with
 | nil => cases h; rfl
 | cons t ts ih => cases h with | cons _ _ _ _ h hs => simp [ih hs]

theorem VsRel.get {π : PMap} {w : World} {av ex : Nat -> Prop} {ts : List TV} {vs : List Value} (h : VsRel π w av ex ts vs) {j : Nat} {t : TV} (hj : ts[j]? = some t) : ∃ v, vs[j]? = some v /\ VRel π w av ex t v := by
 induction ts generalizing vs j with
 | nil => simp at hj
 | cons a ts ih =>
  cases h with
  | cons _ v _ vs h hs =>
   cases j with
   | zero => simp at hj; subst hj; exact ⟨v, by simp, h⟩
   | succ j => simpa using ih hs (by simpa using hj)

theorem VsRel.append {π : PMap} {w : World} {av ex : Nat -> Prop} {ts ts' : List TV} {vs vs' : List Value} (h : VsRel π w av ex ts vs) (h' : VsRel π w av ex ts' vs') : VsRel π w av ex (ts ++ ts') (vs ++ vs') := by
 induction ts generalizing vs with
 | nil => cases h; exact h'
 | cons t ts ih => cases h with | cons _ _ _ _ h hs => exact .cons _ _ _ _ h (ih hs)

theorem VsRel.take {π : PMap} {w : World} {av ex : Nat -> Prop} {ts : List TV} {vs : List Value} (h : VsRel π w av ex ts vs) (n : Nat) : VsRel π w av ex (ts.take n) (vs.take n) := by
 induction n generalizing ts vs with
 | zero => simpa using VsRel.nil
 | succ n ih => cases h with
  | nil => simpa using VsRel.nil
  | cons _ _ _ _ h hs => exact .cons _ _ _ _ h (ih hs)

theorem VsRel.drop {π : PMap} {w : World} {av ex : Nat -> Prop} {ts : List TV} {vs : List Value} (h : VsRel π w av ex ts vs) (n : Nat) : VsRel π w av ex (ts.drop n) (vs.drop n) := by
 induction n generalizing ts vs with
 | zero => simpa using h
 | succ n ih => cases h with
  | nil => simpa using VsRel.nil
  | cons _ _ _ _ h hs => simpa using ih hs

theorem VsRel.split {π : PMap} {w : World} {av ex : Nat -> Prop} {ts ts' : List TV} {vs : List Value} (h : VsRel π w av ex (ts ++ ts') vs) :
  VsRel π w av ex ts (vs.take ts.length) /\ VsRel π w av ex ts' (vs.drop ts.length) := by
 have h1 := h.take ts.length
 have h2 := h.drop ts.length
 simp at h1 h2
 exact ⟨h1, h2⟩

theorem VsRel.put2 {π : PMap} {w : World} {av ex : Nat -> Prop} {ts c : List TV} {vs d : List Value} (h : VsRel π w av ex ts vs) (hc : VsRel π w av ex c d) (off : Nat) :
  VsRel π w av ex (Dn.put2 ts off c) (Dn.put2 vs off d) := by
 unfold Dn.put2
 rw [hc.length]
 exact ((h.take off).append hc).append (h.drop _)

theorem VRel.cells {π : PMap} {w : World} {av ex : Nat -> Prop} {t : TV} {v : Value} (h : VRel π w av ex t v) (hu : t ≠ .undef) : VsRel π w av ex t.cells v.cells.toList := by
 cases h <;> first | exact absurd rfl hu | skip
 case agg l cs h => exact h
 all_goals (simp only [TV.cells, Value.cells]; refine .cons _ _ _ _ ?_ .nil)
 all_goals first | constructor <;> assumption | (constructor) 

theorem VRel.one {π : PMap} {w : World} {av ex : Nat -> Prop} {t : TV} {v : Value} (h : VRel π w av ex t v) (ho : t.one = true) : v.oneCell' = true := by
 cases h <;> first | rfl | simp [TV.one] at ho

/-! ### memory -/

def ERel (π : PMap) (w : World) (av ex : Nat -> Prop) (e : Env) (tmps : Array Value) : Prop := ∀ s t, get e s = some t -> VRel π w av ex t (tmps.getD s undef)

theorem ERel.mono {wr : Nat -> Prop} {π π' : PMap} {w w' : World} {av av' ex : Nat -> Prop} (e : Ev wr π w av π' w' av') (hw : ∀ g, g < w.heap.size -> wr g -> av g) {en : Env} {tmps : Array Value}
  (h : ERel π w av ex en tmps) : ERel π' w' av' ex en tmps := fun s t hs => (h s t hs).mono e hw

theorem get_keepE (ks : List Nat) (e : Env) (s : Nat) (t : TV) (h : get (keepE ks e) s = some t) : get e s = some t := by
 unfold keepE at h
 induction ks with
 | nil => simp [get] at h
 | cons k ks ih =>
  simp only [List.filterMap_cons] at h
  cases hk : get e k with
  | none => simp only [hk, Option.map_none] at h; exact ih h
  | some v =>
   simp only [hk, Option.map_some, get] at h
   split at h
   ·rename_i he; subst he; rw [hk]; exact h
   ·exact ih h

theorem ERel.keep {π : PMap} {w : World} {av ex : Nat -> Prop} {e : Env} {tmps : Array Value} (h : ERel π w av ex e tmps) (ks : List Nat) : ERel π w av ex (keepE ks e) tmps :=
 fun s t hs => h s t (get_keepE ks e s t hs)

theorem ERel.put {π : PMap} {w : World} {av ex : Nat -> Prop} {e : Env} {tmps : Array Value} (h : ERel π w av ex e tmps) {d : Nat} (hd : d < tmps.size) {t : TV} {v : Value} (hv : VRel π w av ex t v) :
  ERel π w av ex ((d, t) :: e) (tmps.setIfInBounds d v) := by
 intro s u hs
 simp only [get] at hs
 split at hs
 ·rename_i he
  subst he
  injection hs with hs
  subst hs
  simpa [Array.getD, hd] using hv
 ·rename_i he
  have := h s u hs
  simpa [Array.getD_eq_getD_getElem?, Array.getElem?_setIfInBounds, he] using this

end Go.Dn

/-
 Which evaluator's code stands for which loaded code: decided by a program.
-/

namespace Go.Dn

mutual
def chkV : TV -> Value -> Bool
 | .b x, .bool y => x == y
 | .i k n, .int k' n' => decide (k = k') && n == n'
 | .s x, .string y => decide (x = y)
 | .nilp, .pointer a => a.isNone
 | .nilsl, .slice a l c => a.isNone && l == 0 && c == 0
 | .nilmap, .map r => r.isNone
 | .nilfn, .nilFunc => true
 | .nilif, .nilIface => true
 | .agg l, .agg cs => chkVs l cs.toList
 | .fn f fs cs, .func g a b => (match g with | .func f' => f == f' | _ => false) && fs.isEmpty && cs.isEmpty && a.isEmpty && b.isEmpty
 | _, _ => false
def chkVs : List TV -> List Value -> Bool
 | [], [] => true
 | t :: ts, v :: vs => chkV t v && chkVs ts vs
 | _, _ => false
end

def chkO : Opnd -> Operand -> Bool
 | .t s, .tmp s' => s == s'
 | .c v, .const x => chkV v x
 | .c (.fn f [] []), .func f' => f == f'
 | .g n, .global n' => n == n'
 | _, _ => false

def chkOs : List Opnd -> List Operand -> Bool
 | [], [] => true
 | a :: ags, b :: bs => chkO a b && chkOs ags bs
 | _, _ => false

def aggT (P : Program) (t : TypeId) : Bool :=
 match P.underlying t with
 | some (.struct _) | some (.array _ _) => true
 | _ => false

def szT (P : Program) (t : TypeId) : Option Nat := (P.info? t).map (·.size)

def tyOk (P : Program) (t : TypeId) (sz : Nat) (ag : Bool) : Bool :=
 (P.underlying t).isSome && szT P t == some sz && aggT P t == ag && (ag || sz == 1)

def zeroOk (P : Program) (t : TypeId) (z : List TV) : Bool :=
 match P.info? t with
 | some i => match i.zero with | some v => chkVs z v.cells.toList && z.all TV.one | none => false
 | none => false

def scalarT (P : Program) (t : TypeId) (c : Bool) : Bool :=
 match P.underlying t, c with
 | some (.int _), true | some .bool, false => szT P t == some 1
 | _, _ => false

def flatFs (P : Program) : List Field -> List Bool -> Nat -> Bool
 | [], [], _ => true
 | f :: fs, c :: ks, n => f.name != "_" && f.offset == n && scalarT P f.type c && flatFs P fs ks (n + 1)
 | _, _, _ => false

def flatT (P : Program) (t : TypeId) (ks : List Bool) : Bool :=
 match P.underlying t with
 | some (.struct fs) => flatFs P fs.toList ks 0 && !P.stoodInHeld t
 | some (.array len e) => scalarT P e true && ks == List.replicate len true
 | _ => false

def nilT (P : Program) (t : TypeId) (kd : Nat) : Bool :=
 match P.underlying t, kd with
 | some (.slice _), 0 | some (.map _ _), 1 | some (.pointer _), 2 | some (.func _ _ _), 3 => true
 | _, _ => false

def keyT (P : Program) (t : TypeId) : KT -> Bool
 | .int => match P.underlying t with | some (.int _) => true | _ => false
 | .flat ks => flatT P t ks && (match P.underlying t with | some (.struct _) => true | _ => false)

def eqOp : Bool -> BinOp
 | false => .eql
 | true => .neq

def lenT (P : Program) (ats : Array TypeId) (kd : Nat) : Bool :=
 match ats[0]?.bind P.underlying, kd with
 | some (.slice _), 0 | some .string, 1 | some (.map _ _), 2 => true
 | _, _ => false

def optO (f : Bool) (x : Option Operand) : Option (List Operand) :=
 match f, x with
 | false, none => some []
 | true, some o => some [o]
 | _, _ => none

def boundsO (lo hi mx : Bool) (l h m : Option Operand) : Option (List Operand) :=
 match optO lo l, optO hi h, optO mx m with
 | some a, some b, some c => if mx && !hi then none else some (a ++ b ++ c)
 | _, _, _ => none

def chkK (P : Program) (k : DK) (a : List Opnd) (op : Op) : Bool :=
 match k, op with
 | .mv, .move x | .mv, .assign x => chkOs a [x]
 | .pick, .pick c x y => chkOs a [c, x, y]
 | .binI b, .binOp b' _ x y _ => decide (b = b') && chkOs a [x, y]
 | .eqB neg, .binOp b t x y _ => decide (b = eqOp neg) && chkOs a [x, y] && (match P.underlying t with | some .bool => true | _ => false)
 | .eqN kd neg, .binOp b t x y _ => decide (b = eqOp neg) && chkOs a [x, y] && nilT P t kd
 | .eqA neg ks, .binOp b t x y _ => decide (b = eqOp neg) && chkOs a [x, y] && flatT P t ks && !P.eqGuardType P.depth t
 | .eqS neg, .binOp b t x y _ => decide (b = eqOp neg) && chkOs a [x, y]
 | .notB, .unOp .not _ x => chkOs a [x]
 | .negI _, .unOp .neg _ x => chkOs a [x]
 | .xorI, .unOp .xor _ x => chkOs a [x]
 | .conv k, .convert s d x => chkOs a [x] && (P.underlying s).isSome && (match P.underlying d with | some (.int k') => decide (k = k') | _ => false)
 | .alloc z ag, .alloc t => chkOs a [] && zeroOk P t z && aggT P t == ag
 | .box ag, .box t x => chkOs a [x]
 | .boxV, .box _ x => chkOs a [x]
 | .build z ps, .build t parts => chkOs a (parts.toList.map (·.2)) && zeroOk P t z &&
  (match P.underlying t with
   | some (.struct fs) => ps == parts.toList.map fun (i, _) => match fs[i]? with | some f => (f.offset, (szT P f.type).getD 0) | none => (0, 0)
   | some (.array _ e) => ps == parts.toList.map fun (i, _) => (i * (szT P e).getD 0, (szT P e).getD 0)
   | _ => false) &&
  (match P.underlying t with
   | some (.struct fs) => parts.toList.all (fun (i, _) => i < fs.size) && fs.toList.all fun f => (szT P f.type).isSome
   | some (.array _ e) => (szT P e).isSome
   | _ => false)
 | .bsl _ z ag len ix, .buildSlice t len' parts => chkOs a (parts.toList.map (·.2)) && len == len' && ix == parts.toList.map (·.1) &&
  (match P.underlying t with
   | some (.slice e) => zeroOk P e z && tyOk P e z.length ag && len * z.length <= 16777216
   | _ => false)
 | .ld sz ag, .load t x => chkOs a [x] && tyOk P t sz ag
 | .st sz, .store t x y => chkOs a [x, y] && szT P t == some sz
 | .nilck, .nilCheck x => chkOs a [x]
 | .mkfn f nf, .makeFunc (.func f') first captured => f == f' && nf == first.size && chkOs a (first.toList ++ captured.toList)
 | .mkmap, .makeMap t r => chkOs a r.toList && (match P.underlying t with | some (.map _ _) => true | _ => false)
 | .mksl z ag bytes, .makeSlice t l c => chkOs a [l, c] &&
  (match P.underlying t with
   | some (.slice e) => zeroOk P e z && tyOk P e z.length ag && ((P.info? e).map (·.bytes)) == some bytes
   | _ => false)
 | .slc lo hi mx sz ag, .slice t x l h m =>
  (match boundsO lo hi mx l h m with | some os => chkOs a (x :: os) | none => false) &&
  (match P.underlying t with | some (.slice e) => tyOk P e sz ag | _ => false)
 | .slcA lo hi mx n sz ag, .slice t x l h m =>
  (match boundsO lo hi mx l h m with | some os => chkOs a (x :: os) | none => false) &&
  (match P.underlying t with | some (.array n' e) => n == n' && tyOk P e sz ag | _ => false)
 | .fadr off sz ag, .fieldAddr t x f => chkOs a [x] && sz != 0 &&
  (match P.underlying t with | some (.struct fs) => (match fs[f]? with | some fd => fd.offset == off && tyOk P fd.type sz ag | none => false) | _ => false)
 | .fld off sz ag, .field t x f => chkOs a [x] &&
  (match P.underlying t with | some (.struct fs) => (match fs[f]? with | some fd => fd.offset == off && tyOk P fd.type sz ag | none => false) | _ => false)
 | .ixS sz ag, .indexAddr t x i => chkOs a [x, i] && (match P.underlying t with | some (.slice e) => tyOk P e sz ag | _ => false)
 | .ixA n sz ag, .indexAddr t x i => chkOs a [x, i] && (match P.underlying t with | some (.array n' e) => n == n' && tyOk P e sz ag | _ => false)
 | .idx n sz ag, .index t x i => chkOs a [x, i] && (match P.underlying t with | some (.array n' e) => n == n' && tyOk P e sz ag | _ => false)
 | .ixStr, .index t x i => chkOs a [x, i] && (match P.underlying t with | some .string => true | _ => false)
 | .lkp kt z ok, .lookup t m k ok' => chkOs a [m, k] && ok == ok' &&
  (match P.underlying t with
   | some (.map kty e) => keyT P kty kt && (match P.info? e with | some i => (match i.zero with | some v => chkV z v | none => false) | none => false)
   | _ => false)
 | .mset kt, .mapUpdate t m k v | .mset kt, .insert t m k v => chkOs a [m, k, v] && (match P.underlying t with | some (.map kty _) => keyT P kty kt | _ => false)
 | .mkS, .makeMap t r => chkOs a r.toList && (match P.underlying t with | some (.map _ _) => true | _ => false)
 | .lkS z ok, .lookup t m k ok' => chkOs a [m, k] && ok == ok' &&
  (match P.underlying t with
   | some (.map kty e) => keyT P kty .int && (match P.info? e with | some i => (match i.zero with | some v => chkV z v | none => false) | none => false)
   | _ => false)
 | .setS, .mapUpdate t m k v | .setS, .insert t m k v => chkOs a [m, k, v] && (match P.underlying t with | some (.map kty _) => keyT P kty .int | _ => false)
 | .rngS, .range t x => chkOs a [x] && (match P.underlying t with | some (.map _ _) => true | _ => false)
 | .ext n, .extract x n' => chkOs a [x] && n == n'
 | .app sz ag bytes, .call { callee := .builtin .append, args, argTypes } =>
  chkOs a args.toList &&
  (match argTypes[0]?.bind P.underlying with
   | some (.slice e) => tyOk P e sz ag && ((P.info? e).map (·.bytes)) == some bytes && sz != 0 && bytes != 0 && (match P.info? e with | some i => (match i.zero with | some v => v.cells.size == sz | none => false) | none => false)
   | _ => false) &&
  (match argTypes[1]? with | some u => (match P.underlying u with | some (.slice _) => true | _ => false) | none => false)
 | .appz z ag bytes, .call { callee := .builtin .append, args, argTypes } =>
  chkOs a args.toList &&
  (match argTypes[0]?.bind P.underlying with
   | some (.slice e) => zeroOk P e z && tyOk P e z.length ag && ((P.info? e).map (·.bytes)) == some bytes
   | _ => false) &&
  (match argTypes[1]?.bind P.underlying with | some (.int _) => true | _ => false)
 | .cap, .call { callee := .builtin .cap, args, argTypes } =>
  chkOs a args.toList && (match argTypes[0]?.bind P.underlying with | some (.slice _) => true | _ => false)
 | .clr z, .call { callee := .builtin .clear, args, argTypes } =>
  chkOs a args.toList && (match argTypes[0]?.bind P.underlying with | some (.slice e) => zeroOk P e z | _ => false)
 | .len kd, .call { callee := .builtin .len, args, argTypes } =>
  chkOs a args.toList && lenT P argTypes kd
 | .mxI, .call { callee := .builtin .max, args, .. } => chkOs a args.toList
 | .mnI, .call { callee := .builtin .min, args, .. } => chkOs a args.toList
 | .call _, .call { callee := .value f, args, .. } => chkOs a (f :: args.toList)
 | .never, _ => true
 | _, _ => false

def chkG (os : Array Oper) : Option (Nat × Bool) -> Option (Nat × Bool) -> Bool
 | none, none => true
 | some (s, x), some (j, y) => x == y && (os[j]?).bind (·.dst) == some s
 | _, _ => false

def chkOper (P : Program) (N : Nat) (os : Array Oper) (o : DOper) (x : Oper) : Bool :=
 o.d == x.dst && (o.d.all (· < N)) && chkG os o.g x.guard && chkK P o.k o.a x.op

def chkOpers (P : Program) (N : Nat) (os : Array Oper) : List DOper -> List Oper -> Bool
 | [], [] => true
 | a :: ags, b :: bs => chkOper P N os a b && chkOpers P N os ags bs
 | _, _ => false

/-! ### regions that draw -/

def DK.W : DK -> Bool
 | .st _ | .mset _ | .setS | .clr _ | .rngS | .appz .. | .app .. | .call .sh | .call .gr | .call .so => true
 | _ => false

def DK.P : DK -> Bool
 | .mv | .pick | .binI _ | .eqB _ | .eqN .. | .eqA .. | .eqS _ | .notB | .negI _ | .xorI | .conv _ | .build .. | .nilck | .mkfn .. | .slc .. | .fadr .. | .fld .. | .ixS .. | .ixA .. | .idx .. | .ixStr | .ext _ | .mxI | .mnI | .cap => true
 | _ => false

def DOper.names (o : DOper) : List Nat := o.d.toList ++ o.a.filterMap (fun | .t s => some s | _ => none) ++ (o.g.map (·.1)).toList

def confl (x y : DOper) : Bool :=
 (match x.d with | some d => y.names.contains d | none => false) || (match y.d with | some d => x.names.contains d | none => false) ||
 (x.k.W && !y.k.P) || (y.k.W && !x.k.P)

def conflAll (y : DOper) (m : Nat) : List DOper -> Nat -> Bool
 | [], _ => true
 | x :: xs, i => (!confl x y || m.testBit i) && conflAll y m xs (i + 1)

def pairsOk (b : Array Nat) (ds : List DOper) : Nat -> List DOper -> Bool
 | _, [] => true
 | j, y :: ys => conflAll y (b.getD j 0) (ds.take j) 0 && pairsOk b ds (j + 1) ys

def DK.isA : DK -> Bool
 | .alloc .. | .box _ | .bsl false .. | .mksl .. | .mkmap | .mkS => true
 | _ => false

def DK.isS : DK -> Bool
 | .st _ | .mset _ | .setS => true
 | _ => false

def DOper.uses (o : DOper) : List Nat := o.a.filterMap (fun | .t s => some s | _ => none) ++ (o.g.map (·.1)).toList

def frOne (ds : List DOper) (w l : Nat) : Bool :=
 match ds[w]?, ds[l]? with
 | some x, some y =>
  x.k.W && (y.k.isLd || (y.k.isA && x.k.isS && (x.a.head?.any fun | .t _ => true | _ => false))) && (x.d.all fun d => !y.names.contains d) && (y.d.all fun d => !x.names.contains d) && y.d.isSome &&
  ((ds.drop l).all fun o => o.d.all fun d => !y.uses.contains d) && ((ds.drop (l + 1)).all fun o => o.d != y.d) && ((ds.drop w).all fun o => o.d.all fun d => !x.uses.contains d)
 | _, _ => false

def cf (ds : List DOper) (fr : List (Nat × Nat)) (i j : Nat) : Bool := confl (ds.getD i default) (ds.getD j default) && !(fr.contains (i, j) || fr.contains (j, i))

def cfAll (ds : List DOper) (fr : List (Nat × Nat)) (j m : Nat) : Nat -> Bool
 | 0 => true
 | i + 1 => (!cf ds fr i j || m.testBit i) && cfAll ds fr j m i

def cfPairs (b : Array Nat) (ds : List DOper) (fr : List (Nat × Nat)) : Nat -> Bool
 | 0 => true
 | j + 1 => cfAll ds fr j (b.getD j 0) j && cfPairs b ds fr j

def drawOkF (ds : List DOper) (os : Array Oper) (fr : List (Nat × Nat)) : Bool :=
 (os.toList.zipIdx.all fun (o, i) => o.after.toList.all fun e => !Region.binds .any e || e.on < i) && cfPairs (Region.before os) ds fr ds.length

def drawOk (ds : List DOper) (os : Array Oper) : Bool :=
 (os.toList.zipIdx.all fun (o, i) => o.after.toList.all fun e => !Region.binds .any e || e.on < i) && pairsOk (Region.before os) ds 0 ds

/-! ### code -/

def stepOk (os : List Oper) (it nx mo : Nat) : Bool :=
 match os with
 | [a, b] => a.dst == some nx && a.guard.isNone && b.dst == some mo && b.guard.isNone && (match a.op, b.op with | .next (.tmp i) false, .extract (.tmp n) 0 => i == it && n == nx | _, _ => false)
 | _ => false

structure MParts where
 o1 : Nat
 rid : Nat
 os : Array Oper
 m : Nat
 o2 : Nat
 n2 : Nat
 rid2 : Nat
 os2 : Array Oper
 c : Code

def mpartsB : Code -> Option MParts
 | .block o1 (.loop (.seq (.region rid os false) (.seq (.cond (.tmp m) .skip (.exit o2)) (.block n2 (.seq (.region rid2 os2 false) c))))) => some ⟨o1, rid, os, m, o2, n2, rid2, os2, c⟩
 | _ => none

def mparts : Code -> Option (MParts × Option Code)
 | .seq a b => (mpartsB a).map fun p => (p, some b)
 | c => (mpartsB c).map fun p => (p, none)

def seqParts : Code -> Option (Code × Code × Code)
 | .seq (.seq a b) c => some (a, b, c)
 | _ => none

def DC.isSkip : DC -> Bool
 | .skip => true
 | _ => false

def mOk (N it nx mo out nxt pair : Nat) (ks : List Nat) (o1 m o2 n2 : Nat) (os : List Oper) : Bool :=
 out == o1 && out == o2 && m == mo && n2 == nxt && it < N && nx < N && mo < N && pair < N && nx != mo && nx != it && mo != it && pair != it && !ks.contains nx && !ks.contains mo && !ks.contains pair && ks.contains it && stepOk os it nx mo

def asgOk (P : Program) (N : Nat) (all : Array Oper) (ds : List DOper) (os : List Oper) (it pair : Nat) : Bool :=
 match ds, os with
 | d :: ds, o :: os => o.dst == some pair && o.guard.isNone && (match o.op with | .entry (.tmp i) => i == it | _ => false) && d.d == some pair && d.g.isNone && (match d.k, d.a with | .mv, [.t s] => s == pair | _, _ => false) && chkOpers P N all ds os
 | _, _ => false


def chkC (P : Program) (N : Nat) : DC -> Code -> Bool
 | .skip, .skip => true
 | .skip, .label _ => true
 | .reg ds _, .region _ os draw => chkOpers P N os ds os.toList && (!draw || drawOk ds os)
 | .regd ds _ fr, .region _ os draw => chkOpers P N os ds os.toList && fr.all (fun p => frOne ds p.1 p.2) && (!draw || drawOkF ds os fr)
 | .seq x y, .seq a b => chkC P N x a && chkC P N y b
 | .seqr x y, c =>
  match seqParts c with
  | some (a, b, c') => chkC P N x a && chkC P N y (.seq b c')
  | none => false
 | .cond c x y, .cond c' a b => chkO c c' && chkC P N x a && chkC P N y b
 | .block id x, .block id' a => id == id' && chkC P N x a
 | .scope x, .scope a => chkC P N x a
 | .loop _ x, .loop a => chkC P N x a
 | .exit id, .exit id' => id == id'
 | .ret, .ret => true
 | .rfunc f ps x y _, .rangeFunc f' params a b => chkO f f' && ps == params.toList && ps.all (· < N) && chkC P N x a && chkC P N y b
 | .mrange it nx mo out nxt pair ds kas y ks z, c =>
  match mparts c with
  | some (p, none) => mOk N it nx mo out nxt pair ks p.o1 p.m p.o2 p.n2 p.os.toList && asgOk P N p.os2 ds p.os2.toList it pair && chkC P N y p.c && z.isSkip
  | some (p, some c2) => mOk N it nx mo out nxt pair ks p.o1 p.m p.o2 p.n2 p.os.toList && asgOk P N p.os2 ds p.os2.toList it pair && chkC P N y p.c && chkC P N z c2
  | none => false
 | .bad, _ => true
 | _, _ => false

def chkR (P : Program) : List RV -> List ResultVar -> Bool
 | [], [] => true
 | .t s :: r, .tmp s' :: r' => s == s' && chkR P r r'
 | .c s sz ag :: r, .cell s' t :: r' => s == s' && tyOk P t sz ag && chkR P r r'
 | _, _ => false

def chkF (P : Program) (d : DFun) (fn : Func) : Bool :=
 d.nt == fn.ntmps && d.np <= d.nt && (match fn.body with | some c => chkC P d.nt d.body c | none => false) && chkR P d.res fn.results.toList

end Go.Dn

/-
 The heap's relation to memory, and what becomes of it: a new object, an object written.
-/

namespace Go.Dn

def EsRel (π : PMap) (w : World) (av ex : Nat -> Prop) : List (TV × TV × Nat) -> List MapEntry -> Prop
 | [], [] => True
 | (k, v, n) :: r, e :: es => VRel π w av ex k e.key /\ VRel π w av ex v e.val /\ e.born = n /\ EsRel π w av ex r es
 | _, _ => False

structure Stamped (es0 : List (TV × TV × Nat)) (es : List (Int × TV)) (ck : Nat) : Prop where
 perm : (es0.map fun e => (e.1, e.2.1)).Perm (es.map fun e => (TV.i .i64 e.1, e.2))
 sorted : es.Pairwise fun a b => a.1 < b.1
 nodup : (es0.map (·.2.2)).Nodup
 lt : ∀ e ∈ es0, e.2.2 < ck

def PendRel : Option Ex -> Option Code -> Prop
 | none, none => True
 | some (.exit i), some (.exit j) => i = j
 | some .ret, some .ret => True
 | _, _ => False

def ORel (P : Program) (π : PMap) (w : World) (av ex : Nat -> Prop) (sh : Nat) : AObj -> Obj -> Prop
 | .cells c _, .cells cc _ fr => fr = (0, 0) /\ sh + c.length <= cc.size /\ c.all TV.one = true /\ ∃ us, VsRel π w av ex c us /\ ∀ (j : Nat) (u : Value), us[j]? = some u -> cc[sh + j]? = some u
 | .map es ck, .map ces ck' => sh = 0 /\ ck' = ck /\ EsRel π w av ex es ces.toList
 | .mapS es ck, .map ces ck' => sh = 0 /\ ck' = ck /\ ∃ es0, Stamped es0 es ck /\ EsRel π w av ex es0 ces.toList
 | .iter mid ck, .mapIter m since seen last => sh = 0 /\ since = ck /\ seen = #[] /\ last = ck /\ ∃ g, m = some g /\ π mid = some (g, 0)
 | .loop L, .loop r => sh = 0 /\ r.state = L.st /\ PendRel L.pend r.pending /\ ERel π w av ex L.env r.tmps /\ r.params.toList = L.params /\ (L.params.all (· < r.tmps.size)) = true /\
   chkC P r.tmps.size L.assign r.assign = true /\ chkC P r.tmps.size L.body r.body = true
 | _, _ => False

structure HRel (P : Program) (B : Nat) (π : PMap) (H : Heap) (w : World) (av ex : Nat -> Prop) : Prop where
 obj : ∀ id g sh o, π id = some (g, sh) -> H[id]? = some o -> o ≠ .dead -> B <= g /\ av g /\ ∃ ob, w.heap[g]? = some ob /\ ORel P π w av ex sh o ob
 inj : ∀ id id' g sh sh' o o', π id = some (g, sh) -> H[id]? = some o -> o ≠ .dead -> π id' = some (g, sh') -> H[id']? = some o' -> o' ≠ .dead -> id = id'
 avb : ∀ g, av g -> g < w.heap.size
 exb : ∀ g, ex g -> g < w.heap.size
 bsz : B <= w.heap.size

theorem EsRel.mono {wr : Nat -> Prop} {π π' : PMap} {w w' : World} {av av' ex : Nat -> Prop} (e : Ev wr π w av π' w' av') (hw : ∀ g, g < w.heap.size -> wr g -> av g) :
  ∀ {es : List (TV × TV × Nat)} {ces : List MapEntry}, EsRel π w av ex es ces -> EsRel π' w' av' ex es ces
 | [], [], _ => trivial
 | (k, v, n) :: r, c :: cs, h => ⟨h.1.mono e hw, h.2.1.mono e hw, h.2.2.1, EsRel.mono e hw h.2.2.2⟩
 | [], _ :: _, h => h.elim
 | _ :: _, [], h => h.elim

theorem ORel.mono {P : Program} {wr : Nat -> Prop} {π π' : PMap} {w w' : World} {av av' ex : Nat -> Prop} (e : Ev wr π w av π' w' av') (hw : ∀ g, g < w.heap.size -> wr g -> av g) {sh : Nat} {o : AObj} {ob : Obj}
  (h : ORel P π w av ex sh o ob) : ORel P π' w' av' ex sh o ob := by
 cases o <;> cases ob <;> simp only [ORel] at h ⊢
 case cells.cells =>
  obtain ⟨h1, h0, h2, us, h3, h4⟩ := h
  exact ⟨h1, h0, h2, us, h3.mono e hw, h4⟩
 case map.map => exact ⟨h.1, h.2.1, h.2.2.mono e hw⟩
 case iter.mapIter => obtain ⟨h1, h2, h3, h4, g, h5, h6⟩ := h; exact ⟨h1, h2, h3, h4, g, h5, e.map _ _ h6⟩
 case mapS.map => obtain ⟨h1, h2, es0, h3, h4⟩ := h; exact ⟨h1, h2, es0, h3, h4.mono e hw⟩
 case loop.loop =>
  obtain ⟨h1, h2, h3, h4, h5⟩ := h
  exact ⟨h1, h2, h3, h4.mono e hw, h5⟩

def none' : Nat -> Prop := fun _ => False

theorem HRel.mono {P : Program} {B : Nat} {π π' : PMap} {H : Heap} {w w' : World} {av av' ex : Nat -> Prop} (h : HRel P B π H w av ex) (e : Ev none' π w av π' w' av')
  (hn : ∀ id o, H[id]? = some o -> π' id ≠ π id -> False) (hav : ∀ g, av g -> av' g) (hb : ∀ g, av' g -> g < w'.heap.size) : HRel P B π' H w' av' ex where
 obj id g sh o hp ho hd := by
  have hp' : π id = some (g, sh) := by
   by_cases hq : π' id = π id
   ·rw [<- hq]; exact hp
   ·exact (hn id o ho hq).elim
  obtain ⟨h1, h2, ob, h3, h4⟩ := h.obj id g sh o hp' ho hd
  exact ⟨h1, hav g h2, ob, by rw [e.blk g (h.avb g h2) (fun x => x)]; exact h3, h4.mono e fun _ _ x => x.elim⟩
 inj id id' g sh sh' o o' hp ho hd hp' ho' hd' := by
  have q : ∀ i oo gg ss, π' i = some (gg, ss) -> H[i]? = some oo -> π i = some (gg, ss) := by
   intro i oo gg ss hp ho
   by_cases hq : π' i = π i
   ·rw [<- hq]; exact hp
   ·exact (hn i oo ho hq).elim
  exact h.inj id id' g sh sh' o o' (q _ _ _ _ hp ho) ho hd (q _ _ _ _ hp' ho') ho' hd'
 avb := hb
 exb g x := Nat.lt_of_lt_of_le (h.exb g x) e.len
 bsz := Nat.le_trans h.bsz e.len

/-! ### a new object -/
def PMap.add (π : PMap) (id g : Nat) : PMap := fun i => if i = id then some (g, 0) else π i
def avAdd (av : Nat -> Prop) (g : Nat) : Nat -> Prop := fun x => av x \/ x = g

theorem heap_push_lt (w : World) (o : Obj) {g : Nat} (h : g < w.heap.size) : (w.alloc o).heap[g]? = w.heap[g]? := by
 show (w.heap.push o)[g]? = _
 rw [Array.getElem?_push, if_neg (by omega)]
theorem heap_push_eq (w : World) (o : Obj) : (w.alloc o).heap[w.heap.size]? = some o := by
 show (w.heap.push o)[w.heap.size]? = _
 simp

theorem Ev.alloc (wr : Nat -> Prop) (π : PMap) (w : World) (av : Nat -> Prop) (ob : Obj) : Ev wr π w av π (w.alloc ob) av where
 map _ _ h := h
 blk g hg _ := heap_push_lt w ob hg
 siz g cc el fr h := ⟨cc, by rw [heap_push_lt w ob (Array.getElem?_eq_some_iff.1 h).1]; exact h, rfl⟩
 lop g r h := ⟨r, by rw [heap_push_lt w ob (Array.getElem?_eq_some_iff.1 h).1]; exact h⟩
 sub g _ h := h
 len := by simp
 os := rfl
 tape := ⟨rfl, Nat.le_refl _⟩
 out := rfl

theorem Ev.new (wr : Nat -> Prop) (π : PMap) (w : World) (av : Nat -> Prop) (ob : Obj) (id : Nat) (hf : π id = none) : Ev wr π w av (π.add id w.heap.size) (w.alloc ob) (avAdd av w.heap.size) where
 map i p h := by
  unfold PMap.add
  split
  ·rename_i e; subst e; rw [hf] at h; cases h
  ·exact h
 blk g hg _ := heap_push_lt w ob hg
 siz g cc el fr h := ⟨cc, by rw [heap_push_lt w ob (Array.getElem?_eq_some_iff.1 h).1]; exact h, rfl⟩
 lop g r h := ⟨r, by rw [heap_push_lt w ob (Array.getElem?_eq_some_iff.1 h).1]; exact h⟩
 sub g hg h := h.resolve_right (by omega)
 len := by simp
 os := rfl
 tape := ⟨rfl, Nat.le_refl _⟩
 out := rfl

theorem HRel.alloc {P : Program} {B : Nat} {π : PMap} {H : Heap} {w : World} {av ex : Nat -> Prop} (h : HRel P B π H w av ex) (ob : Obj) : HRel P B π H (w.alloc ob) av ex :=
 h.mono (Ev.alloc none' π w av ob) (fun _ _ _ x => x rfl) (fun _ x => x) (fun g x => by have := h.avb g x; simp; omega)

theorem HRel.new {P : Program} {B : Nat} {π : PMap} {H : Heap} {w : World} {av ex : Nat -> Prop} (h : HRel P B π H w av ex) (hf : π H.length = none) (ob : Obj) (o : AObj)
  (hd : o ≠ .dead) (ho : ORel P (π.add H.length w.heap.size) (w.alloc ob) (avAdd av w.heap.size) ex 0 o ob) :
  HRel P B (π.add H.length w.heap.size) (H ++ [o]) (w.alloc ob) (avAdd av w.heap.size) ex := by
 have e := Ev.new none' π w av ob H.length hf
 have h1 : HRel P B (π.add H.length w.heap.size) H (w.alloc ob) (avAdd av w.heap.size) ex := by
  refine h.mono e (fun id oo ho hn => hn ?_) (fun _ x => .inl x) (fun g x => ?_)
  ·have : id < H.length := (List.getElem?_eq_some_iff.1 ho).1
   unfold PMap.add; rw [if_neg (by omega)]
  ·rcases x with x | x
   ·have := h.avb g x; simp; omega
   ·simp; omega
 have hself : (π.add H.length w.heap.size) H.length = some (w.heap.size, 0) := by simp [PMap.add]
 have hidx : ∀ id oo, (H ++ [o])[id]? = some oo -> (id < H.length /\ H[id]? = some oo) \/ (id = H.length /\ oo = o) := by
  intro id oo hh
  rw [List.getElem?_append] at hh
  split at hh
  ·exact .inl ⟨by assumption, hh⟩
  ·rename_i hl
   have : id - H.length = 0 := by
    rcases Nat.eq_zero_or_pos (id - H.length) with h | h
    ·exact h
    ·rw [List.getElem?_eq_none (by simp; omega)] at hh; cases hh
   rw [this] at hh
   simp at hh
   exact .inr ⟨by omega, hh.symm⟩
 have hold : ∀ id g sh oo, (π.add H.length w.heap.size) id = some (g, sh) -> H[id]? = some oo -> oo ≠ .dead -> g < w.heap.size := by
  intro id g sh oo hp hh hdd
  have hlt : id < H.length := (List.getElem?_eq_some_iff.1 hh).1
  have : π id = some (g, sh) := by unfold PMap.add at hp; rw [if_neg (by omega)] at hp; exact hp
  exact h.avb g (h.obj id g sh oo this hh hdd).2.1
 refine ⟨?_, ?_, h1.avb, h1.exb, h1.bsz⟩
 ·intro id g sh oo hp hh hdd
  rcases hidx id oo hh with ⟨hl, hh⟩ | ⟨rfl, rfl⟩
  ·exact h1.obj id g sh oo hp hh hdd
  ·rw [hself] at hp
   simp only [Option.some.injEq, Prod.mk.injEq] at hp
   obtain ⟨rfl, rfl⟩ := hp
   exact ⟨h.bsz, .inr rfl, ob, heap_push_eq w ob, ho⟩
 ·intro id id' g sh sh' oo oo' hp hh hdd hp' hh' hdd'
  rcases hidx id oo hh with ⟨hl, hq⟩ | ⟨rfl, rfl⟩ <;> rcases hidx id' oo' hh' with ⟨hl', hq'⟩ | ⟨rfl, rfl⟩
  ·exact h1.inj id id' g sh sh' oo oo' hp hq hdd hp' hq' hdd'
  ·rw [hself] at hp'
   simp only [Option.some.injEq, Prod.mk.injEq] at hp'
   have := hold id g sh oo hp hq hdd
   omega
  ·rw [hself] at hp
   simp only [Option.some.injEq, Prod.mk.injEq] at hp
   have := hold id' g sh' oo' hp' hq' hdd'
   omega
  ·rfl

/-! ### an object written -/
def only (g : Nat) : Nat -> Prop := fun x => x = g

theorem HRel.set {P : Program} {B : Nat} {π : PMap} {H : Heap} {w w' : World} {av ex : Nat -> Prop} (h : HRel P B π H w av ex) {id g sh : Nat} {o : AObj} (hp : π id = some (g, sh)) (hi : H[id]? = some o) (hd : o ≠ .dead)
  (e : Ev (only g) π w av π w' av) (o' : AObj) (ob' : Obj) (hb : w'.heap[g]? = some ob') (ho : ORel P π w' av ex sh o' ob') : HRel P B π (H.set id o') w' av ex := by
 have hav : av g := (h.obj id g sh o hp hi hd).2.1
 have hlt : id < H.length := (List.getElem?_eq_some_iff.1 hi).1
 have hw : ∀ x, x < w.heap.size -> only g x -> av x := fun x _ hx => by rw [show x = g from hx]; exact hav
 have hidx : ∀ i oo, (H.set id o')[i]? = some oo -> (i ≠ id /\ H[i]? = some oo) \/ (i = id /\ oo = o') := by
  intro i oo hh
  rw [List.getElem?_set] at hh
  by_cases he : id = i
  ·subst he; simp [hlt] at hh; exact .inr ⟨rfl, hh.symm⟩
  ·rw [if_neg he] at hh; exact .inl ⟨fun x => he x.symm, hh⟩
 refine ⟨?_, ?_, fun x hx => Nat.lt_of_lt_of_le (h.avb x hx) e.len, fun x hx => Nat.lt_of_lt_of_le (h.exb x hx) e.len, Nat.le_trans h.bsz e.len⟩
 ·intro i g' sh' oo hp' hh hdd
  rcases hidx i oo hh with ⟨hne, hq⟩ | ⟨rfl, rfl⟩
  ·obtain ⟨h1, h2, ob, h3, h4⟩ := h.obj i g' sh' oo hp' hq hdd
   have hne' : g' ≠ g := fun he => hne (h.inj i id g sh' sh oo o (he ▸ hp') hq hdd hp hi hd)
   exact ⟨h1, h2, ob, by rw [e.blk g' (h.avb g' h2) hne']; exact h3, h4.mono e hw⟩
  ·rw [hp] at hp'
   simp only [Option.some.injEq, Prod.mk.injEq] at hp'
   obtain ⟨rfl, rfl⟩ := hp'
   exact ⟨(h.obj i g sh o hp hi hd).1, hav, ob', hb, ho⟩
 ·intro i i' g' s1 s2 o1 o2 hp1 hh1 hd1 hp2 hh2 hd2
  rcases hidx i o1 hh1 with ⟨hn1, hq1⟩ | ⟨rfl, rfl⟩ <;> rcases hidx i' o2 hh2 with ⟨hn2, hq2⟩ | ⟨rfl, rfl⟩
  ·exact h.inj i i' g' s1 s2 o1 o2 hp1 hq1 hd1 hp2 hq2 hd2
  ·rw [hp] at hp2
   simp only [Option.some.injEq, Prod.mk.injEq] at hp2
   obtain ⟨rfl, rfl⟩ := hp2
   exact h.inj i i' g s1 sh o1 o hp1 hq1 hd1 hp hi hd
  ·rw [hp] at hp1
   simp only [Option.some.injEq, Prod.mk.injEq] at hp1
   obtain ⟨rfl, rfl⟩ := hp1
   exact h.inj i i' g sh s2 o o2 hp hi hd hp2 hq2 hd2
  ·rfl

theorem HRel.drop {P : Program} {B : Nat} {π : PMap} {H : Heap} {w : World} {av ex : Nat -> Prop} (h : HRel P B π H w av ex) (id : Nat) : HRel P B π (H.set id .dead) w av ex := by
 have hidx : ∀ (i : Nat) (oo : AObj), (H.set id .dead)[i]? = some oo -> oo ≠ .dead -> H[i]? = some oo := by
  intro i oo hh hd
  rw [List.getElem?_set] at hh
  split at hh
  ·rename_i he
   split at hh
   ·injection hh with hh; exact absurd hh.symm hd
   ·cases hh
  ·exact hh
 exact ⟨fun i g sh o hp hh hd => h.obj i g sh o hp (hidx i o hh hd) hd, fun i i' g s1 s2 o1 o2 hp1 hh1 hd1 hp2 hh2 hd2 => h.inj i i' g s1 s2 o1 o2 hp1 (hidx i o1 hh1 hd1) hd1 hp2 (hidx i' o2 hh2 hd2) hd2, h.avb, h.exb, h.bsz⟩

theorem Ev.setRow (π : PMap) (w : World) (av : Nat -> Prop) {g : Nat} {cur new : Array Value} {el : TypeId} {fr : Nat × Nat} (hg : w.heap[g]? = some (.cells cur el fr)) (hs : new.size = cur.size) :
  Ev (only g) π w av π (w.setRow g new) av where
 map _ _ h := h
 blk x hx hn := setRow_other w g x new (fun e => hn e)
 siz x cc el' fr' h := by
  by_cases he : x = g
  ·subst he
   rw [hg] at h
   simp only [Option.some.injEq, Obj.cells.injEq] at h
   obtain ⟨rfl, rfl, rfl⟩ := h
   exact ⟨new, setRow_heap w x _ _ _ _ hg, hs⟩
  ·exact ⟨cc, (setRow_other w g x new he).trans h, rfl⟩
 lop x r h := by
  by_cases he : x = g
  ·subst he; rw [hg] at h; cases h
  ·exact ⟨r, (setRow_other w g x new he).trans h⟩
 sub _ _ h := h
 len := by simp [World.setRow]
 os := rfl
 tape := ⟨rfl, Nat.le_refl _⟩
 out := rfl

end Go.Dn

/-
 Operations: what the evaluator says, the model does. Part 1: words, values, loads and stores.
-/

namespace Go.Dn

variable {P : Program} {B : Nat} {π : PMap} {H : Heap} {w : World} {av ex : Nat -> Prop}

structure Res (P : Program) (B : Nat) (wr : Nat -> Prop) (π : PMap) (H : Heap) (w : World) (av ex : Nat -> Prop) (H' : Heap) (w' : World) (π' : PMap) (av' : Nat -> Prop) : Prop where
 ev : Ev wr π w av π' w' av'
 hr : HRel P B π' H' w' av' ex
 dom : ∀ id, π' id ≠ π id -> H.length <= id /\ id < H'.length
 ext : ∀ g, av g -> av' g
 hl : H.length <= H'.length
 frs : ∀ id g sh, π' id ≠ π id -> π' id = some (g, sh) -> w.heap.size <= g \/ wr g

theorem Res.same (wr : Nat -> Prop) (h : HRel P B π H w av ex) : Res P B wr π H w av ex H w π av :=
 ⟨Ev.refl _ _ _ _, h, fun _ x => absurd rfl x, fun _ x => x, Nat.le_refl _, fun _ _ _ x => absurd rfl x⟩

theorem Res.drawn (wr : Nat -> Prop) (h : HRel P B π H w av ex) (n : Nat) (hn : w.drawn <= n) : Res P B wr π H w av ex H { w with drawn := n } π av := by
 have e : Ev none' π w av π { w with drawn := n } av := ⟨fun _ _ h => h, fun _ _ _ => rfl, fun _ cc _ _ h => ⟨cc, h, rfl⟩, fun _ r h => ⟨r, h⟩, fun _ _ h => h, Nat.le_refl _, rfl, ⟨rfl, hn⟩, rfl⟩
 exact ⟨⟨fun _ _ h => h, fun _ _ _ => rfl, fun _ cc _ _ h => ⟨cc, h, rfl⟩, fun _ r h => ⟨r, h⟩, fun _ _ h => h, Nat.le_refl _, rfl, ⟨rfl, hn⟩, rfl⟩,
  h.mono e (fun _ _ _ x => x rfl) (fun _ x => x) h.avb, fun _ x => absurd rfl x, fun _ x => x, Nat.le_refl _, fun _ _ _ x => absurd rfl x⟩

def NxRel (π : PMap) (w : World) (av ex : Nat -> Prop) (t : TV) (nx : Next) : Prop := (∃ v, nx = .value v /\ VRel π w av ex t v) \/ (nx = .skip /\ t = .undef)

def wrK (B : Nat) (av : Nat -> Prop) (W : Bool) : Nat -> Prop := fun g => W = true /\ av g /\ B <= g

def OpOk (P : Program) (B : Nat) (W : Bool) (π : PMap) (H : Heap) (w : World) (av ex : Nat -> Prop) (run : Result Next) (t : TV) (H' : Heap) : Prop :=
 ∃ nx w' π' av', run = .ok nx w' /\ NxRel π' w' av' ex t nx /\ Res P B (wrK B av W) π H w av ex H' w' π' av'

theorem OpOk.pure {W : Bool} (h : HRel P B π H w av ex) {run : Result Next} {t : TV} {v : Value} (hr : run = .ok (.value v) w) (hv : VRel π w av ex t v) : OpOk P B W π H w av ex run t H :=
 ⟨_, _, _, _, hr, .inl ⟨v, rfl, hv⟩, Res.same _ h⟩

/-! ### lists of one, two, three -/
theorem VsRel.inv1 {ts : List TV} {u : Value} (h : VsRel π w av ex ts [u]) : ∃ t, ts = [t] /\ VRel π w av ex t u := by
 cases h with | cons t _ ts _ h hs => cases hs; exact ⟨t, rfl, h⟩
theorem VsRel.inv2 {ts : List TV} {u v : Value} (h : VsRel π w av ex ts [u, v]) : ∃ t s, ts = [t, s] /\ VRel π w av ex t u /\ VRel π w av ex s v := by
 cases h with | cons t _ ts _ h hs => obtain ⟨s, rfl, h2⟩ := hs.inv1; exact ⟨t, s, rfl, h, h2⟩
theorem VsRel.inv3 {ts : List TV} {u v x : Value} (h : VsRel π w av ex ts [u, v, x]) : ∃ t s r, ts = [t, s, r] /\ VRel π w av ex t u /\ VRel π w av ex s v /\ VRel π w av ex r x := by
 cases h with | cons t _ ts _ h hs => obtain ⟨s, r, rfl, h2, h3⟩ := hs.inv2; exact ⟨t, s, r, rfl, h, h2, h3⟩
theorem VsRel.inv_cons {ts : List TV} {u : Value} {us : List Value} (h : VsRel π w av ex ts (u :: us)) : ∃ t r, ts = t :: r /\ VRel π w av ex t u /\ VsRel π w av ex r us := by
 cases h with | cons t _ ts _ h hs => exact ⟨t, ts, rfl, h, hs⟩

/-! ### constants -/
mutual
theorem chkV_sound : ∀ {t : TV} {v : Value}, chkV t v = true -> VRel π w av ex t v
 | .undef, v, h => by cases v <;> simp [chkV] at h
 | .b x, v, h => by cases v <;> simp [chkV] at h; subst h; exact .b _
 | .i k n, v, h => by cases v <;> simp [chkV] at h; obtain ⟨rfl, rfl⟩ := h; exact .i _ _
 | .s x, v, h => by cases v <;> simp [chkV] at h; subst h; exact .s _
 | .nilp, v, h => by cases v <;> simp [chkV] at h; subst h; exact .nilp
 | .nilsl, v, h => by cases v <;> simp [chkV] at h; obtain ⟨⟨rfl, rfl⟩, rfl⟩ := h; exact .nilsl
 | .nilmap, v, h => by cases v <;> simp [chkV] at h; subst h; exact .nilmap
 | .nilfn, v, h => by cases v <;> simp [chkV] at h; exact .nilfn
 | .nilif, v, h => by cases v <;> simp [chkV] at h; exact .nilif
 | .agg l, v, h => by
  cases v <;> simp [chkV] at h
  exact .agg _ _ (chkVs_sound h)
 | .tup l, v, h => by simp [chkV] at h
 | .fn f fs cs, v, h => by
  cases v <;> simp [chkV] at h
  rename_i g a b
  obtain ⟨⟨⟨⟨h0, rfl⟩, rfl⟩, rfl⟩, rfl⟩ := h
  cases g <;> simp at h0
  subst h0
  exact .fn _ _ _ _ _ .nil .nil
 | .yl _, v, h => by simp [chkV] at h
 | .ref .., v, h => by simp [chkV] at h
 | .sl .., v, h => by simp [chkV] at h
 | .esl, v, h => by simp [chkV] at h
 | .mp _, v, h => by simp [chkV] at h
 | .bp .., v, h => by simp [chkV] at h
 | .bs .., v, h => by simp [chkV] at h
theorem chkVs_sound : ∀ {ts : List TV} {vs : List Value}, chkVs ts vs = true -> VsRel π w av ex ts vs
 | [], [], _ => .nil
 | t :: ts, v :: vs, h => by
  simp only [chkVs, Bool.and_eq_true] at h
  exact .cons _ _ _ _ (chkV_sound h.1) (chkVs_sound h.2)
 | [], _ :: _, h => by simp [chkVs] at h
 | _ :: _, [], h => by simp [chkVs] at h
end

/-! ### types -/
theorem run_isAgg (P : Program) (w : World) {t : TypeId} {sz : Nat} {ag : Bool} (h : tyOk P t sz ag = true) : (isAgg t).run P w = .ok ag w := by
 simp only [tyOk, Bool.and_eq_true, aggT, beq_iff_eq] at h
 obtain ⟨⟨⟨h1, h2⟩, h3⟩, h4⟩ := h
 obtain ⟨d, hd⟩ := Option.isSome_iff_exists.1 h1
 unfold isAgg
 rw [Sem.run_bind, run_underlying hd w, Result.andThen_ok]
 rw [hd] at h3
 cases d <;> simp_all

theorem run_szOf (P : Program) (w : World) {t : TypeId} {sz : Nat} (h : szT P t = some sz) : (sizeOf t).run P w = .ok sz w := by
 unfold szT at h
 cases hq : P.info? t with
 | none => simp [hq] at h
 | some i => simp [hq] at h; simp [sizeOf, typeInfo, hq, h]

theorem tyOk.sz {t : TypeId} {sz : Nat} {ag : Bool} (h : tyOk P t sz ag = true) : szT P t = some sz := by
 simp only [tyOk, Bool.and_eq_true, beq_iff_eq] at h
 exact h.1.1.2
theorem tyOk.one {t : TypeId} {sz : Nat} (h : tyOk P t sz false = true) : sz = 1 := by
 simp only [tyOk, Bool.and_eq_true, Bool.false_or, beq_iff_eq] at h
 exact h.2

theorem run_zero (P : Program) (w : World) {t : TypeId} {z : List TV} (h : zeroOk P t z = true) : ∃ v, (zeroValue t).run P w = .ok v w /\ chkVs z v.cells.toList = true /\ z.all TV.one = true /\ (P.info? t).bind (·.zero) = some v := by
 unfold zeroOk at h
 cases hq : P.info? t with
 | none => simp [hq] at h
 | some i =>
  cases hz : i.zero with
  | none => simp [hq, hz] at h
  | some v =>
   simp only [hq, hz, Bool.and_eq_true] at h
   exact ⟨v, by simp [zeroValue, typeInfo, hq, hz], h.1, h.2, by simp [hz]⟩

/-! ### parts of values -/
theorem part_get {l : List TV} {off : Nat} {t : TV} (h : (l[off]?.bind fun v => if v.isAgg then none else some v) = some t) : l[off]? = some t := by
 cases hl : l[off]? with
 | none => simp [hl] at h
 | some v =>
  simp only [hl, Option.bind_some] at h
  split at h
  ·cases h
  ·exact h

theorem part_sound {sz : Nat} {ag : Bool} {off : Nat} {l : List TV} {t : TV} {ty : TypeId} {us : Array Value} (hp : part sz ag off l = some t) (h : VsRel π w av ex l us.toList) (ht : tyOk P ty sz ag = true) (w' : World) :
  ∃ v, (Go.part ty us off).run P w' = .ok v w' /\ VRel π w av ex t v := by
 unfold part at hp
 unfold Go.part
 rw [Sem.run_bind, run_isAgg P w' ht, Result.andThen_ok]
 cases ag with
 | true =>
  simp only [if_true] at hp
  split at hp
  ·rename_i hl
   injection hp with hp
   subst hp
   simp only [if_true, Sem.run_bind, run_szOf P w' (tyOk.sz ht), Result.andThen_ok, Sem.run_pure]
   refine ⟨_, rfl, .agg _ _ ?_⟩
   have h2 := (h.drop off).take sz
   have e : (us.extract off (off + sz)).toList = (us.toList.drop off).take sz := by
    rw [Array.toList_extract]
    simp [List.extract_eq_take_drop]
   rw [e]
   exact h2
  ·cases hp
 | false =>
  simp only [Bool.false_eq_true, if_false] at hp ⊢
  obtain ⟨v, hv, hr⟩ := h.get (part_get hp)
  rw [Array.getElem?_toList] at hv
  exact ⟨v, by simp [hv], hr⟩

theorem loadVar_sound {sz : Nat} {ag : Bool} {off g o : Nat} {l : List TV} {t : TV} {ty : TypeId} {us : List Value} (hp : part sz ag off l = some t) (h : VsRel π w av ex l us) (ht : tyOk P ty sz ag = true)
  (hm : MemAt w g o us) : ∃ v, (loadVar ty ⟨g, o + off, none⟩).run P w = .ok v w /\ VRel π w av ex t v := by
 unfold part at hp
 cases ag with
 | true =>
  simp only [if_true] at hp
  split at hp
  ·rename_i hl
   injection hp with hp
   subst hp
   have h2 := (h.drop off).take sz
   have hlen : ((us.drop off).take sz).length = sz := by
    have := h.length
    simp; omega
   have hc : ∀ (j : Nat) (v : Value), ((us.drop off).take sz)[j]? = some v -> w.cell? ((⟨g, o + off, none⟩ : Addr).add j) = some v := by
    intro j v hv
    rw [Addr.add_mid]
    have : us[off + j]? = some v := by
     rw [List.getElem?_take] at hv
     split at hv
     ·simpa using hv
     ·cases hv
    have := hm _ _ this
    rwa [show o + (off + j) = o + off + j by omega] at this
   have hl2 := run_loadCells_list (P := P) w ⟨g, o + off, none⟩ ((us.drop off).take sz) hc
   rw [hlen] at hl2
   refine ⟨.agg ((us.drop off).take sz).toArray, ?_, .agg _ _ (by simpa using h2)⟩
   simp [loadVar, Sem.run_bind, run_isAgg P w ht, run_szOf P w (tyOk.sz ht), hl2]
  ·cases hp
 | false =>
  simp only [Bool.false_eq_true, if_false] at hp
  obtain ⟨v, hv, hr⟩ := h.get (part_get hp)
  have := hm _ _ hv
  refine ⟨v, ?_, hr⟩
  simp [loadVar, Sem.run_bind, run_isAgg P w ht, this]

theorem ld_sound (hH : HRel P B π H w av ex) {sz : Nat} {ag : Bool} {x t : TV} {u : Value} {H' : Heap} {ty : TypeId} (hd : dk (.ld sz ag) [x] H = some (t, H')) (hx : VRel π w av ex x u) (ht : tyOk P ty sz ag = true) :
  H' = H /\ ∃ v, (Instr.loadAt ty u).run P w = .ok v w /\ VRel π w av ex t v := by
 cases hx <;> simp only [dk] at hd <;> try (cases hd; done)
 case ref id off g sh hp =>
  split at hd
  ·rename_i c ag' hi
   simp only [Option.map_eq_some_iff, Prod.mk.injEq] at hd
   obtain ⟨t', hpt, rfl, rfl⟩ := hd
   obtain ⟨_, _, ob, hb, ho⟩ := hH.obj id g sh _ hp hi (by simp)
   cases ob <;> simp only [ORel] at ho
   rename_i cc el fr
   obtain ⟨rfl, _, _, us, hus, hcc⟩ := ho
   have hm : MemAt w g sh us := fun j u hu => by simp [World.cell?, hb, hcc j u hu]
   obtain ⟨v, hv, hr⟩ := loadVar_sound hpt hus ht hm
   exact ⟨rfl, v, by simp [Instr.loadAt, Instr.sureAddr, hv], hr⟩
  ·cases hd
 case bp bo v g off us h hm ha =>
  have key : part sz ag 0 v.cells = some t /\ H' = H := by
   cases v <;> simp only [] at hd
   case agg l =>
    split at hd
    ·rename_i hc
     injection hd with hd
     injection hd with h1 h2
     subst h1; subst h2
     obtain ⟨rfl, rfl⟩ := hc
     simp [part, TV.cells]
    ·cases hd
   all_goals
    cases ag <;> simp at hd
    obtain ⟨rfl, rfl⟩ := hd
    simp [part, TV.cells, TV.isAgg]
  obtain ⟨hk, rfl⟩ := key
  obtain ⟨v', hv', hr⟩ := loadVar_sound (o := off) hk h ht hm
  exact ⟨rfl, v', by simpa [Instr.loadAt, Instr.sureAddr] using hv', hr⟩

theorem all_one {l : List TV} {us : List Value} (h : VsRel π w av ex l us) (ho : l.all TV.one = true) : ∀ v ∈ us, v.oneCell' = true := by
 intro v hv
 obtain ⟨j, hj⟩ := List.getElem?_of_mem hv
 have hlt : j < us.length := (List.getElem?_eq_some_iff.1 hj).1
 rw [<- h.length] at hlt
 obtain ⟨u, hu, hr⟩ := h.get (List.getElem?_eq_getElem hlt)
 rw [hj] at hu
 injection hu with hu
 subst hu
 exact hr.one (by simpa using List.all_eq_true.1 ho _ (List.getElem_mem hlt))

theorem put2_get {α : Type} {l c : List α} {off j : Nat} {u : α} (hl : off + c.length <= l.length) (h : (put2 l off c)[j]? = some u) :
  (off <= j /\ j < off + c.length /\ c[j - off]? = some u) \/ ((j < off \/ off + c.length <= j) /\ l[j]? = some u) := by
 unfold put2 at h
 rw [List.append_assoc, List.getElem?_append] at h
 have hlt : (l.take off).length = off := by simp; omega
 rw [hlt] at h
 split at h
 ·rename_i hj
  rw [List.getElem?_take, if_pos hj] at h
  exact .inr ⟨.inl hj, h⟩
 ·rename_i hj
  rw [List.getElem?_append] at h
  split at h
  ·exact .inl ⟨by omega, by omega, h⟩
  ·rename_i hj2
   rw [List.getElem?_drop] at h
   refine .inr ⟨.inr (by omega), ?_⟩
   rwa [show off + c.length + (j - off - c.length) = j by omega] at h

theorem seg_get {α : Type} {l : List α} {c : List α} {a : Nat} (ha : a + c.length <= l.length) (j : Nat) :
  (l.take a ++ c ++ l.drop (a + c.length))[j]? = if j < a then l[j]? else if j < a + c.length then c[j - a]? else l[j]? := by
 rw [List.append_assoc, List.getElem?_append]
 have hlt : (l.take a).length = a := by simp; omega
 rw [hlt]
 split
 ·rw [List.getElem?_take, if_pos (by assumption)]
 ·rw [List.getElem?_append]
  split
  ·rw [if_pos (by omega)]
  ·rw [if_neg (by omega), List.getElem?_drop]
   congr 1
   omega

theorem write_sound (hH : HRel P B π H w av ex) {id g sh off : Nat} {c xs : List TV} {ag : Bool} {vs : List Value} (hp : π id = some (g, sh)) (hi : H[id]? = some (.cells c ag))
  (hv : VsRel π w av ex xs vs) (ho : xs.all TV.one = true) (hl : off + xs.length <= c.length) :
  ∃ w', (storeCells ⟨g, sh + off, none⟩ vs).run P w = .ok () w' /\ Ev (only g) π w av π w' av /\ HRel P B π (H.set id (.cells (put2 c off xs) ag)) w' av ex := by
 obtain ⟨hB, hav, ob, hb, hob⟩ := hH.obj id g sh _ hp hi (by simp)
 cases ob <;> simp only [ORel] at hob
 rename_i cc el fr
 obtain ⟨rfl, hroom0, hone, us, hus, hcc⟩ := hob
 have hlen := hus.length
 have hvl := hv.length
 have hroom : sh + off + vs.length <= cc.size := by omega
 have hst := run_storeCells_at P g (sh + off) el vs 0 cc w hb (by omega) (all_one hv ho)
 simp only [Nat.add_zero] at hst
 have e := Ev.setRow π w av (new := (cc.toList.take (sh + off) ++ vs ++ cc.toList.drop (sh + off + vs.length)).toArray) hb (by simp; omega)
 have hw : ∀ x, x < w.heap.size -> only g x -> av x := fun x _ hx => by rw [show x = g from hx]; exact hav
 refine ⟨_, hst, e, hH.set hp hi (by simp) e _ _ (setRow_heap w g _ _ _ _ hb) ?_⟩
 refine ⟨rfl, by simp [put2]; omega, ?_, put2 us off vs, (hus.put2 hv off).mono e hw, ?_⟩
 ·rw [List.all_eq_true]
  intro x hx
  unfold put2 at hx
  simp only [List.mem_append] at hx
  rcases hx with (hx | hx) | hx
  ·exact List.all_eq_true.1 hone x (List.mem_of_mem_take hx)
  ·exact List.all_eq_true.1 ho x hx
  ·exact List.all_eq_true.1 hone x (List.mem_of_mem_drop hx)
 ·intro j u hu
  have hh := put2_get (by omega) hu
  rw [List.getElem?_toArray, seg_get (by simp; omega)]
  rcases hh with ⟨h1, h2, h3⟩ | ⟨h1, h2⟩
  ·rw [if_neg (by omega), if_pos (by omega)]
   rwa [show sh + j - (sh + off) = j - off by omega]
  ·have := hcc j u h2
   rw [<- Array.getElem?_toList] at this
   split
   ·exact this
   ·rw [if_neg (by omega)]; exact this

end Go.Dn

/-
 Operations, part 2: numbers, truth values, comparisons.
-/

namespace Go.Dn

variable {P : Program} {B : Nat} {π : PMap} {H : Heap} {w : World} {av ex : Nat -> Prop}

theorem eqGuard_int (P : Program) (w : World) (bop : BinOp) (ty : TypeId) (ox oy : Operand) (k k' : IntKind) (a b : Int) : (eqGuard bop ty ox oy (.int k a) (.int k' b)).run P w = .ok () w := by
 unfold eqGuard
 cases bop <;> simp

theorem binI_sound {bop : BinOp} {x y t : TV} {u v : Value} {ty : TypeId} {ox oy : Operand} (hb : binI bop x y = some t) (hx : VRel π w av ex x u) (hy : VRel π w av ex y v) :
  ∃ z, (do eqGuard bop ty ox oy u v; binOp bop ty u v : Sem Value).run P w = .ok z w /\ VRel π w av ex t z := by
 cases hx <;> try (simp only [binI] at hb; cases hb; done)
 rename_i k a
 cases hy <;> try (simp only [binI] at hb; cases hb; done)
 rename_i k' b
 simp only [Sem.run_bind, eqGuard_int, Result.andThen_ok]
 by_cases hk : k = k'
 ·subst hk
  cases bop <;> simp only [binI, if_true] at hb <;> (try (cases hb; done)) <;> (try (split at hb; · cases hb)) <;> (injection hb with hb; subst hb) <;>
   simp_all [binOp, Op.intArith, Op.intDiv, Op.intBits, Op.intCmp, Op.shift, wrapR, VRel.i, VRel.b] <;> exact ⟨_, if_neg (by omega), .i _ _⟩
 ·cases bop <;> simp only [binI, if_neg hk] at hb <;> (try (cases hb; done)) <;> (try (split at hb; · cases hb)) <;> (injection hb with hb; subst hb) <;>
   simp_all [binOp, Op.shift, wrapR, VRel.i] <;> exact ⟨_, if_neg (by omega), .i _ _⟩

theorem equal_eq (t : TypeId) (x y : Value) : Op.equal t x y = Op.equalIn (9999 + 1) t x y := rfl

theorem eqB_sound {neg : Bool} {x y : Bool} {ty : TypeId} {ox oy : Operand} (ht : P.underlying ty = some .bool) :
  (do eqGuard (eqOp neg) ty ox oy (.bool x) (.bool y); binOp (eqOp neg) ty (.bool x) (.bool y) : Sem Value).run P w = .ok (.bool (negb neg (x == y))) w := by
 have hg : (eqGuard (eqOp neg) ty ox oy (.bool x) (.bool y)).run P w = .ok () w := by unfold eqGuard; cases neg <;> simp [eqOp]
 have he : ∀ d, (Op.equalIn (d + 1) ty (.bool x) (.bool y)).run P w = .ok (x == y) w := fun d => by
  simp [Op.equalIn, run_underlying ht]
 simp only [Sem.run_bind, hg, Result.andThen_ok]
 cases neg <;> simp [eqOp, binOp, equal_eq, he, negb, -Nat.reduceAdd]

theorem eqS_sound {neg : Bool} {x y : ByteArray} {ty : TypeId} {ox oy : Operand} :
  (do eqGuard (eqOp neg) ty ox oy (.string x) (.string y); binOp (eqOp neg) ty (.string x) (.string y) : Sem Value).run P w = .ok (.bool (negb neg (x.toList == y.toList))) w := by
 have hg : (eqGuard (eqOp neg) ty ox oy (.string x) (.string y)).run P w = .ok () w := by unfold eqGuard; cases neg <;> simp [eqOp]
 simp only [Sem.run_bind, hg, Result.andThen_ok]
 cases neg <;> simp [eqOp, binOp, Op.stringOp, negb, bne]

theorem eqN_run {ty : TypeId} {u v : Value} {ox oy : Operand} {neg e : Bool} (hg : (eqGuard (eqOp neg) ty ox oy u v).run P w = .ok () w)
  (h1 : binOp .eql ty u v = (do pure (.bool (<- Op.equal ty u v)))) (h2 : binOp .neq ty u v = (do pure (.bool (!(<- Op.equal ty u v)))))
  (he : (Op.equalIn (9999 + 1) ty u v).run P w = .ok e w) : (do eqGuard (eqOp neg) ty ox oy u v; binOp (eqOp neg) ty u v : Sem Value).run P w = .ok (.bool (negb neg e)) w := by
 rw [<- equal_eq] at he
 simp only [Sem.run_bind, hg, Result.andThen_ok]
 cases neg
 ·simp only [eqOp, h1, Sem.run_bind, he, Result.andThen_ok, Sem.run_pure]; rfl
 ·simp only [eqOp, h2, Sem.run_bind, he, Result.andThen_ok, Sem.run_pure]; rfl

theorem eqN_slice (d : Nat) {ty e : TypeId} (hu : P.underlying ty = some (.slice e)) (a a' : Option Addr) (n c n' c' : Nat) (h : (a.isNone || a'.isNone) = true) :
  (Op.equalIn (d + 1) ty (.slice a n c) (.slice a' n' c')).run P w = .ok (a.isNone && a'.isNone) w := by
 unfold Op.equalIn
 rw [Sem.run_bind, run_underlying hu, Result.andThen_ok]
 cases a <;> cases a' <;> simp at h ⊢
theorem eqN_map (d : Nat) {ty k e : TypeId} (hu : P.underlying ty = some (.map k e)) (a a' : Option Nat) (h : (a.isNone || a'.isNone) = true) :
  (Op.equalIn (d + 1) ty (.map a) (.map a')).run P w = .ok (a.isNone && a'.isNone) w := by
 unfold Op.equalIn
 rw [Sem.run_bind, run_underlying hu, Result.andThen_ok]
 cases a <;> cases a' <;> simp at h ⊢
theorem eqN_ptr (d : Nat) {ty e : TypeId} (hu : P.underlying ty = some (.pointer e)) (a a' : Option Addr) (h : (a.isNone || a'.isNone) = true) :
  (Op.equalIn (d + 1) ty (.pointer a) (.pointer a')).run P w = .ok (a.isNone && a'.isNone) w := by
 unfold Op.equalIn
 rw [Sem.run_bind, run_underlying hu, Result.andThen_ok]
 cases a <;> cases a' <;> simp at h ⊢
def isFn : Value -> Option Bool
 | .nilFunc => some true
 | .func .. => some false
 | _ => none
theorem eqN_fn (d : Nat) {ty : TypeId} {x y : Array TypeId} {z : Bool} (hu : P.underlying ty = some (.func x y z)) {u v : Value} {p q : Bool} (hp : isFn u = some p) (hq : isFn v = some q) (h : (p || q) = true) :
  (Op.equalIn (d + 1) ty u v).run P w = .ok (p && q) w := by
 unfold Op.equalIn
 rw [Sem.run_bind, run_underlying hu, Result.andThen_ok]
 cases u <;> simp only [isFn] at hp <;> (try (cases hp; done)) <;> cases v <;> simp only [isFn] at hq <;> (try (cases hq; done)) <;> (injection hp with hp; injection hq with hq; subst hp; subst hq) <;> simp at h ⊢

theorem isNil_slice {x : TV} {u : Value} {p : Bool} (hp : isNil 0 x = some p) (hx : VRel π w av ex x u) : ∃ a n c, u = .slice a n c /\ a.isNone = p := by
 cases hx <;> simp only [isNil] at hp <;> (try (cases hp; done)) <;> (injection hp with hp; subst hp) <;> exact ⟨_, _, _, rfl, rfl⟩
theorem isNil_map {x : TV} {u : Value} {p : Bool} (hp : isNil 1 x = some p) (hx : VRel π w av ex x u) : ∃ a, u = .map a /\ a.isNone = p := by
 cases hx <;> simp only [isNil] at hp <;> (try (cases hp; done)) <;> (injection hp with hp; subst hp) <;> exact ⟨_, rfl, rfl⟩
theorem isNil_ptr {x : TV} {u : Value} {p : Bool} (hp : isNil 2 x = some p) (hx : VRel π w av ex x u) : ∃ a, u = .pointer a /\ a.isNone = p := by
 cases hx <;> simp only [isNil] at hp <;> (try (cases hp; done)) <;> (injection hp with hp; subst hp) <;> exact ⟨_, rfl, rfl⟩
theorem isNil_fn {x : TV} {u : Value} {p : Bool} (hp : isNil 3 x = some p) (hx : VRel π w av ex x u) : isFn u = some p := by
 cases hx <;> simp only [isNil] at hp <;> (try (cases hp; done)) <;> (injection hp with hp; subst hp) <;> rfl

theorem eqN_sound {kd : Nat} {neg : Bool} {x y : TV} {p q : Bool} {u v : Value} {ty : TypeId} {ox oy : Operand} (hn : nilT P ty kd = true) (hp : isNil kd x = some p) (hq : isNil kd y = some q) (hpq : (p || q) = true)
  (hx : VRel π w av ex x u) (hy : VRel π w av ex y v) :
  (do eqGuard (eqOp neg) ty ox oy u v; binOp (eqOp neg) ty u v : Sem Value).run P w = .ok (.bool (negb neg (p && q))) w := by
 unfold nilT at hn
 split at hn <;> try (cases hn; done)
 ·rename_i hu
  obtain ⟨a, n, c, rfl, rfl⟩ := isNil_slice hp hx
  obtain ⟨a', n', c', rfl, rfl⟩ := isNil_slice hq hy
  refine eqN_run ?_ rfl rfl (eqN_slice 9999 hu a a' n c n' c' hpq)
  unfold eqGuard; cases neg <;> simp [eqOp]
 ·rename_i hu
  obtain ⟨a, rfl, rfl⟩ := isNil_map hp hx
  obtain ⟨a', rfl, rfl⟩ := isNil_map hq hy
  refine eqN_run ?_ rfl rfl (eqN_map 9999 hu a a' hpq)
  unfold eqGuard; cases neg <;> simp [eqOp]
 ·rename_i hu
  obtain ⟨a, rfl, rfl⟩ := isNil_ptr hp hx
  obtain ⟨a', rfl, rfl⟩ := isNil_ptr hq hy
  refine eqN_run ?_ rfl rfl (eqN_ptr 9999 hu a a' hpq)
  unfold eqGuard; cases neg <;> simp [eqOp]
 ·rename_i hu
  have h1 := isNil_fn hp hx
  have h2 := isNil_fn hq hy
  refine eqN_run ?_ ?_ ?_ (eqN_fn 9999 hu h1 h2 hpq)
  ·unfold eqGuard
   cases u <;> simp only [isFn] at h1 <;> (try (cases h1; done)) <;> cases v <;> simp only [isFn] at h2 <;> (try (cases h2; done)) <;> cases neg <;> simp [eqOp]
  ·cases u <;> simp only [isFn] at h1 <;> (try (cases h1; done)) <;> cases v <;> simp only [isFn] at h2 <;> (try (cases h2; done)) <;> rfl
  ·cases u <;> simp only [isFn] at h1 <;> (try (cases h1; done)) <;> cases v <;> simp only [isFn] at h2 <;> (try (cases h2; done)) <;> rfl

end Go.Dn

/-
 Operations, part 3: structs and arrays compared; keys; maps.
-/

namespace Go.Dn

variable {P : Program} {B : Nat} {π : PMap} {H : Heap} {w : World} {av ex : Nat -> Prop}

theorem scalar_eq {c : Bool} {x y : TV} {u v : Value} {t : TypeId} {e : Bool} (hs : scalarT P t c = true) (he : eqS c x y = some e) (hx : VRel π w av ex x u) (hy : VRel π w av ex y v) (d : Nat) (w' : World) :
  (Op.equalIn (d + 1) t u v).run P w' = .ok e w' := by
 unfold scalarT at hs
 split at hs
 ·rename_i k hu
  cases hx <;> simp only [eqS] at he <;> try (cases he; done)
  cases hy <;> simp only [eqS] at he <;> try (cases he; done)
  split at he
  ·rename_i hk
   subst hk
   injection he with he
   subst he
   exact run_equalIn_int w' d t _ _ _ _ hu
  ·cases he
 ·rename_i hu
  cases hx <;> simp only [eqS] at he <;> try (cases he; done)
  cases hy <;> simp only [eqS] at he <;> try (cases he; done)
  injection he with he
  subst he
  exact run_equalIn_bool' w' d t _ _ hu
 ·cases hs

theorem scalar_part {c : Bool} {t : TypeId} (hs : scalarT P t c = true) {us : Array Value} {n : Nat} {u : Value} (hu : us[n]? = some u) (w' : World) : (Go.part t us n).run P w' = .ok u w' := by
 have ht : tyOk P t 1 false = true := by
  unfold scalarT at hs
  split at hs <;> first | (cases hs; done) | (rename_i h; simp only [beq_iff_eq] at hs; simp [tyOk, h, hs, aggT])
 unfold Go.part
 rw [Sem.run_bind, run_isAgg P w' ht, Result.andThen_ok]
 simp [hu]

theorem flatFs_eq : ∀ (fs : List Field) (ks : List Bool) (n : Nat) {x y : List TV} {us vs : Array Value} {e : Bool}, flatFs P fs ks n = true -> eqL ks (x.drop n) (y.drop n) = some e ->
  VsRel π w av ex x us.toList -> VsRel π w av ex y vs.toList -> ∀ (d : Nat) (w' : World), (Op.eqFields (d + 1) us vs fs).run P w' = .ok e w'
 | [], ks, n, x, y, us, vs, e, hf, he, hx, hy, d, w' => by
  cases ks with
  | nil =>
   cases hxd : x.drop n <;> cases hyd : y.drop n <;> simp only [hxd, hyd, eqL] at he <;> try (cases he; done)
   injection he with he
   subst he
   simp [Op.eqFields]
  | cons => simp [flatFs] at hf
 | f :: fs, [], n, x, y, us, vs, e, hf, _, _, _, _, _ => by simp [flatFs] at hf
 | f :: fs, c :: ks, n, x, y, us, vs, e, hf, he, hx, hy, d, w' => by
  simp only [flatFs, Bool.and_eq_true, bne_iff_ne, ne_eq, beq_iff_eq] at hf
  obtain ⟨⟨⟨hn, ho⟩, hs⟩, hr⟩ := hf
  cases hxd : x.drop n with
  | nil => simp only [hxd, eqL] at he; cases he
  | cons a xs =>
  cases hyd : y.drop n with
  | nil => simp only [hxd, hyd, eqL] at he; cases he
  | cons b ys =>
  simp only [hxd, hyd, eqL, Option.bind_eq_some_iff, Option.map_eq_some_iff] at he
  obtain ⟨e1, h1, e2, h2, rfl⟩ := he
  have gx : x[n]? = some a := by have := List.getElem?_drop (xs := x) (i := n) (j := 0); rw [hxd] at this; simpa using this.symm
  have gy : y[n]? = some b := by have := List.getElem?_drop (xs := y) (i := n) (j := 0); rw [hyd] at this; simpa using this.symm
  obtain ⟨u, hu, hru⟩ := hx.get gx
  obtain ⟨v, hv, hrv⟩ := hy.get gy
  rw [Array.getElem?_toList] at hu hv
  have hxs : x.drop (n + 1) = xs := by rw [<- List.drop_drop, hxd]; rfl
  have hys : y.drop (n + 1) = ys := by rw [<- List.drop_drop, hyd]; rfl
  have ih := flatFs_eq fs ks (n + 1) hr (by rw [hxs, hys]; exact h2) hx hy d w'
  simp only [Op.eqFields, ne_eq, hn, not_false_eq_true, if_true, Sem.run_bind, ho, scalar_part hs hu w', scalar_part hs hv w', scalar_eq hs h1 hru hrv d w', Result.andThen_ok]
  cases e1 <;> simp [ih]

theorem eqArr_loop {elem : TypeId} (hs : scalarT P elem true = true) {us vs : Array Value} (d : Nat) :
  ∀ (m i : Nat) {x y : List TV} {e : Bool} (w' : World), eqL (List.replicate m true) x y = some e -> (∀ (j : Nat) t, x[j]? = some t -> ∃ u, us[i + j]? = some u /\ VRel π w av ex t u) ->
   (∀ (j : Nat) t, y[j]? = some t -> ∃ u, vs[i + j]? = some u /\ VRel π w av ex t u) ->
   ((forIn (List.range' i m) ((none, ()) : Option Bool × Unit) fun i r =>
     (do
      let a <- Go.part elem us (i * 1)
      let b <- Go.part elem vs (i * 1)
      let q <- Op.equalIn (d + 1) elem a b
      if (!q) = true then pure (ForInStep.done (some false, ())) else pure (ForInStep.yield (none, ())) : Sem (ForInStep (Option Bool × Unit)))).run P w') = .ok (if e then none else some false, ()) w'
 | 0, i, x, y, e, w', he, _, _ => by
  cases x <;> cases y <;> simp only [List.replicate, eqL] at he <;> try (cases he; done)
  injection he with he
  subst he
  simp
 | m + 1, i, x, y, e, w', he, hx, hy => by
  rw [List.replicate_succ] at he
  cases x with
  | nil => simp only [eqL] at he; cases he
  | cons a xs =>
  cases y with
  | nil => simp only [eqL] at he; cases he
  | cons b ys =>
  simp only [eqL, Option.bind_eq_some_iff, Option.map_eq_some_iff] at he
  obtain ⟨e1, h1, e2, h2, rfl⟩ := he
  obtain ⟨u, hu, hru⟩ := hx 0 a rfl
  obtain ⟨v, hv, hrv⟩ := hy 0 b rfl
  have ih := eqArr_loop hs d m (i + 1) w' h2 (fun j t ht => by have := hx (j + 1) t (by simpa using ht); rwa [show i + (j + 1) = i + 1 + j by omega] at this)
   (fun j t ht => by have := hy (j + 1) t (by simpa using ht); rwa [show i + (j + 1) = i + 1 + j by omega] at this)
  simp only [Nat.add_zero] at hu hv
  rw [List.range'_succ, List.forIn_cons]
  simp only [Sem.run_bind, Nat.mul_one, scalar_part hs hu w', scalar_part hs hv w', scalar_eq hs h1 hru hrv d w', Result.andThen_ok]
  simp only [Nat.mul_one] at ih
  cases e1
  ·simp
  ·simpa using ih

theorem eqA_run {t : TypeId} {ks : List Bool} {x y : List TV} {us vs : Array Value} {e : Bool} (hf : flatT P t ks = true) (he : eqL ks x y = some e) (hx : VsRel π w av ex x us.toList) (hy : VsRel π w av ex y vs.toList) (d : Nat) (w' : World) :
  (Op.equalIn (d + 1 + 1) t (.agg us) (.agg vs)).run P w' = .ok e w' := by
 unfold flatT at hf
 split at hf
 ·rename_i fs hu
  simp only [Bool.and_eq_true, Bool.not_eq_true'] at hf
  have hfo : P.fieldsOf t = fs := by simp [Program.fieldsOf, hu]
  rw [run_equalIn_struct (P := P) w' (d + 1) t us vs (by rw [hfo]; exact hu) hf.2, hfo]
  exact flatFs_eq fs.toList ks 0 hf.1 (by simpa using he) hx hy d w'
 ·rename_i len e' hu
  simp only [Bool.and_eq_true, beq_iff_eq] at hf
  obtain ⟨hs, rfl⟩ := hf
  have hsz : szT P e' = some 1 := by
   unfold scalarT at hs
   split at hs <;> first | (cases hs; done) | simpa using hs
  have hl := eqArr_loop (P := P) (π := π) (w := w) (av := av) (ex := ex) hs (us := us) (vs := vs) d len 0 (x := x) (y := y) w' he
   (fun j t ht => by obtain ⟨u, h1, h2⟩ := hx.get ht; exact ⟨u, by simpa using h1, h2⟩) (fun j t ht => by obtain ⟨u, h1, h2⟩ := hy.get ht; exact ⟨u, by simpa using h1, h2⟩)
  unfold Op.equalIn
  rw [Sem.run_bind, run_underlying hu, Result.andThen_ok]
  simp only [Sem.run_bind, run_szOf P w' hsz, Result.andThen_ok]
  rw [Std.Legacy.Range.forIn_eq_forIn_range']
  simp only [Std.Legacy.Range.size, Nat.sub_zero, Nat.add_sub_cancel, Nat.div_one]
  rw [hl]
  cases e <;> simp
 ·cases hf

theorem eqA_sound {neg : Bool} {ks : List Bool} {x y : List TV} {us vs : Array Value} {ty : TypeId} {ox oy : Operand} {e : Bool} (hf : flatT P ty ks = true) (hg : P.eqGuardType P.depth ty = false) (he : eqL ks x y = some e)
  (hx : VsRel π w av ex x us.toList) (hy : VsRel π w av ex y vs.toList) :
  (do eqGuard (eqOp neg) ty ox oy (.agg us) (.agg vs); binOp (eqOp neg) ty (.agg us) (.agg vs) : Sem Value).run P w = .ok (.bool (negb neg e)) w :=
 eqN_run (run_eqGuard_agg w _ _ _ _ _ _ hg) rfl rfl (eqA_run hf he hx hy 9998 w)

end Go.Dn

/-
 Operations, part 4: maps.
-/

namespace Go.Dn

variable {P : Program} {B : Nat} {π : PMap} {H : Heap} {w : World} {av ex : Nat -> Prop}

theorem checkKey_scalar {t : TypeId} {c : Bool} (hs : scalarT P t c = true) (em : Bool) (n : Nat) (v : Value) (w' : World) : (Instr.checkKey em (n + 1) t v).run P w' = .ok () w' := by
 unfold scalarT at hs
 split at hs <;> first | (cases hs; done) | (rename_i h; simp [Instr.checkKey, run_underlying h])

theorem checkKey_fields {us : Array Value} (em : Bool) (n : Nat) : ∀ (fs : List Field) (ks : List Bool) (o : Nat) (w' : World), flatFs P fs ks o = true -> o + fs.length <= us.size ->
  (forIn fs PUnit.unit fun f r => (if f.name ≠ "_" then (do let a <- Go.part f.type us f.offset; Instr.checkKey em (n + 1) f.type a; pure (ForInStep.yield PUnit.unit)) else pure (ForInStep.yield PUnit.unit) : Sem (ForInStep PUnit))).run P w' = .ok PUnit.unit w'
 | [], _, _, w', _, _ => by simp
 | f :: fs, [], _, _, h, _ => by simp [flatFs] at h
 | f :: fs, c :: ks, o, w', h, hl => by
  simp only [flatFs, Bool.and_eq_true, bne_iff_ne, ne_eq, beq_iff_eq] at h
  obtain ⟨⟨⟨hn, ho⟩, hs⟩, hr⟩ := h
  have ih := checkKey_fields (us := us) em n fs ks (o + 1) w' hr (by simp at hl; omega)
  have hlt : o < us.size := by simp at hl; omega
  have hu : us[o]? = some us[o] := Array.getElem?_eq_getElem hlt
  rw [List.forIn_cons]
  simp only [ne_eq, hn, not_false_eq_true, if_true, Sem.run_bind, ho, scalar_part hs hu w', checkKey_scalar hs, Result.andThen_ok, Sem.run_pure]
  simpa using ih

theorem eqL_length : ∀ {ks : List Bool} {x y : List TV} {e : Bool}, eqL ks x y = some e -> x.length = ks.length /\ y.length = ks.length
 | [], [], [], _, _ => by simp
 | c :: ks, x :: xs, y :: ys, e, h => by
  simp only [eqL, Option.bind_eq_some_iff, Option.map_eq_some_iff] at h
  obtain ⟨_, _, _, h2, _⟩ := h
  have := eqL_length h2
  simp [this]
 | [], _ :: _, _, _, h => by simp [eqL] at h
 | [], [], _ :: _, _, h => by simp [eqL] at h
 | _ :: _, [], _, _, h => by simp [eqL] at h
 | _ :: _, _ :: _, [], _, h => by simp [eqL] at h

theorem flatFs_length : ∀ {fs : List Field} {ks : List Bool} {n : Nat}, flatFs P fs ks n = true -> fs.length = ks.length
 | [], [], _, _ => rfl
 | _ :: fs, _ :: ks, n, h => by
  simp only [flatFs, Bool.and_eq_true] at h
  simp [flatFs_length h.2]
 | [], _ :: _, _, h => by simp [flatFs] at h
 | _ :: _, [], _, h => by simp [flatFs] at h

theorem eqK_flat {ks : List Bool} {k k' : TV} {e : Bool} (h : eqK (.flat ks) k k' = some e) : ∃ xs ys, k = .agg xs /\ k' = .agg ys /\ eqL ks xs ys = some e := by
 cases k <;> simp only [eqK] at h <;> try (cases h; done)
 cases k' <;> simp only [eqK] at h <;> try (cases h; done)
 exact ⟨_, _, rfl, rfl, h⟩

theorem checkKey_sound {kt : KT} {t : TypeId} {k k' : TV} {u : Value} {e : Bool} (hk : keyT P t kt = true) (he : eqK kt k k' = some e) (hx : VRel π w av ex k u) (em : Bool) (w' : World) :
  (Instr.checkKey em 10000 t u).run P w' = .ok () w' := by
 show (Instr.checkKey em (9998 + 1 + 1) t u).run P w' = .ok () w'
 cases kt with
 | int =>
  simp only [keyT] at hk
  split at hk
  ·rename_i h
   simp only [eqK] at he
   cases hx <;> simp only [eqS] at he <;> try (cases he; done)
   unfold Instr.checkKey
   simp [run_underlying h]
  ·cases hk
 | flat ks =>
  simp only [keyT, Bool.and_eq_true] at hk
  obtain ⟨h1, h2⟩ := hk
  split at h2
  ·rename_i fs hu
   obtain ⟨xs, ys, rfl, rfl, he⟩ := eqK_flat he
   cases hx
   rename_i us h
   simp only [flatT, hu, Bool.and_eq_true] at h1
   have hl := (eqL_length he).1
   have hl2 := flatFs_length h1.1
   have hl3 := h.length
   have := checkKey_fields (P := P) (us := us) em 9998 fs.toList _ 0 w' h1.1 (by simp at hl3 hl2 ⊢; omega)
   unfold Instr.checkKey
   rw [Sem.run_bind, run_underlying hu, Result.andThen_ok]
   simp only [<- Array.forIn_toList]
   simpa using this
  ·cases h2

theorem eqK_int {k k' : TV} {u u' : Value} {e : Bool} (he : eqK .int k k' = some e) (hx : VRel π w av ex k u) (hy : VRel π w av ex k' u') (kk : IntKind) : Instr.sameNow (.int kk) u u' = some e := by
 simp only [eqK] at he
 cases hx <;> simp only [eqS] at he <;> try (cases he; done)
 cases hy <;> simp only [eqS] at he <;> try (cases he; done)
 split at he
 ·rename_i hk; subst hk; injection he with he; subst he; simp [Instr.sameNow]
 ·cases he

def FRel (π : PMap) (w : World) (av ex : Nat -> Prop) (n : Nat) : Option (Nat × TV) -> Option (Nat × Value) -> Prop
 | none, none => True
 | some (i, v), some (j, u) => j = n + i /\ VRel π w av ex v u
 | _, _ => False

theorem findNow_sound {k : TV} {u : Value} (hx : VRel π w av ex k u) (kk : IntKind) : ∀ (es : List (TV × TV × Nat)) (ces : List MapEntry) (n : Nat) (r : Option (Nat × TV)), findK .int k es = some r -> EsRel π w av ex es ces ->
  ∃ q, Instr.findNow (.int kk) u ces n = some q /\ FRel π w av ex n r q
 | [], [], n, r, h, _ => by simp only [findK, Option.some.injEq] at h; subst h; exact ⟨none, rfl, trivial⟩
 | (k', v, b) :: es, c :: ces, n, r, h, he => by
  obtain ⟨h1, h2, h3, h4⟩ := he
  simp only [findK, Option.bind_eq_some_iff] at h
  obtain ⟨e, heq, h⟩ := h
  simp only [Instr.findNow, eqK_int heq hx h1 kk]
  cases e with
  | true => simp only [if_true, Option.some.injEq] at h; subst h; exact ⟨_, rfl, by simp [FRel, h2]⟩
  | false =>
   simp only [Bool.false_eq_true, if_false, Option.map_eq_some_iff] at h
   obtain ⟨r', hr, rfl⟩ := h
   obtain ⟨q, hq, hf⟩ := findNow_sound hx kk es ces (n + 1) r' hr h4
   refine ⟨q, hq, ?_⟩
   cases r' <;> cases q <;> simp_all [FRel]
   omega
 | [], _ :: _, _, _, _, he => he.elim
 | _ :: _, [], _, _, _, he => he.elim

theorem findAsking_sound {ks : List Bool} {t : TypeId} (hf : flatT P t ks = true) {k : TV} {u : Value} (hx : VRel π w av ex k u) (w' : World) : ∀ (es : List (TV × TV × Nat)) (ces : List MapEntry) (n : Nat) (r : Option (Nat × TV)),
  findK (.flat ks) k es = some r -> EsRel π w av ex es ces -> ∃ q, (Instr.findAsking t u ces n).run P w' = .ok q w' /\ FRel π w av ex n r q
 | [], [], n, r, h, _ => by simp only [findK, Option.some.injEq] at h; subst h; exact ⟨none, by simp [Instr.findAsking], trivial⟩
 | (k', v, b) :: es, c :: ces, n, r, h, he => by
  obtain ⟨h1, h2, h3, h4⟩ := he
  simp only [findK, Option.bind_eq_some_iff] at h
  obtain ⟨e, heq, h⟩ := h
  have hrun : (Op.equal t u c.key).run P w' = .ok e w' := by
   obtain ⟨xs, ys, rfl, rfl, heq⟩ := eqK_flat heq
   generalize c.key = ck at h1
   cases hx
   cases h1
   exact eqA_run hf heq (by assumption) (by assumption) 9998 w'
  simp only [Instr.findAsking, Sem.run_bind, hrun, Result.andThen_ok]
  cases e with
  | true => simp only [if_true, Option.some.injEq] at h; subst h; exact ⟨some (n, c.val), by simp, by simp [FRel, h2]⟩
  | false =>
   simp only [Bool.false_eq_true, if_false, Option.map_eq_some_iff] at h
   obtain ⟨r', hr, rfl⟩ := h
   obtain ⟨q, hq, hfr⟩ := findAsking_sound hf hx w' es ces (n + 1) r' hr h4
   refine ⟨q, by simpa using hq, ?_⟩
   cases r' <;> cases q <;> simp_all [FRel]
   omega
 | [], _ :: _, _, _, _, he => he.elim
 | _ :: _, [], _, _, _, he => he.elim

theorem findKey_sound {kt : KT} {t : TypeId} (hk : keyT P t kt = true) {k : TV} {u : Value} (hx : VRel π w av ex k u) (w' : World) {es : List (TV × TV × Nat)} {ces : List MapEntry} {r : Option (Nat × TV)}
  (h : findK kt k es = some r) (he : EsRel π w av ex es ces) : ∃ q, (Instr.findKey t u ces).run P w' = .ok q w' /\ FRel π w av ex 0 r q := by
 cases kt with
 | int =>
  simp only [keyT] at hk
  split at hk
  ·rename_i kk hu
   obtain ⟨q, hq, hf⟩ := findNow_sound hx kk es ces 0 r h he
   exact ⟨q, by simp [Instr.findKey, run_underlying hu, hq], hf⟩
  ·cases hk
 | flat ks =>
  simp only [keyT, Bool.and_eq_true] at hk
  obtain ⟨h1, h2⟩ := hk
  split at h2
  ·rename_i fs hu
   cases es with
   | nil =>
    cases ces with
    | cons => exact he.elim
    | nil => simp only [findK, Option.some.injEq] at h; subst h; exact ⟨none, by simp [Instr.findKey, run_underlying hu, Instr.findNow], trivial⟩
   | cons x es =>
    cases ces with
    | nil => exact he.elim
    | cons c ces =>
     obtain ⟨q, hq, hf⟩ := findAsking_sound h1 hx w' (x :: es) (c :: ces) 0 r h he
     exact ⟨q, by simp [Instr.findKey, run_underlying hu, Instr.findNow, Instr.sameNow, hq], hf⟩
  ·cases h2

theorem lkp_sound (hH : HRel P B π H w av ex) {kt : KT} {z : TV} {ok : Bool} {m k t : TV} {um uk : Value} {H' : Heap} {ty kty ety : TypeId} (hd : dk (.lkp kt z ok) [m, k] H = some (t, H')) (hm : VRel π w av ex m um) (hx : VRel π w av ex k uk)
  (hu : P.underlying ty = some (.map kty ety)) (hk : keyT P kty kt = true) {i : TypeInfo} {zv : Value} (hi : P.info? ety = some i) (hz : i.zero = some zv) (hzv : chkV z zv = true) :
  H' = H /\ ∃ v, (Instr.lookup ty um uk ok).run P w = .ok v w /\ VRel π w av ex t v := by
 have hzr : VRel π w av ex z zv := chkV_sound hzv
 have hzrun : (zeroValue ety).run P w = .ok zv w := by simp [zeroValue, typeInfo, hi, hz]
 simp only [dk] at hd
 cases hm <;> simp only [] at hd <;> try (cases hd; done)
 case nilmap =>
  simp only [Option.map_eq_some_iff, Prod.mk.injEq] at hd
  obtain ⟨e, he, rfl, rfl⟩ := hd
  refine ⟨rfl, if ok then .tuple #[zv, .bool false] else zv, ?_, ?_⟩
  ·have hck := checkKey_sound hk he hx true w
   obtain ⟨q, hq, hf⟩ := findKey_sound (P := P) hk hx w (es := []) (ces := []) (r := none) rfl trivial
   cases q with
   | some q => exact hf.elim
   | none =>
    simp [Instr.lookup, run_underlying hu, hck, hq, hzrun]
  ·cases ok
   ·simpa using hzr
   ·simp only [if_true]; exact .tup _ _ (.cons _ _ _ _ hzr (.cons _ _ _ _ (.b _) .nil))
 case mp id g hp =>
  split at hd
  ·rename_i es ck hi'
   simp only [Option.bind_eq_some_iff, Option.map_eq_some_iff] at hd
   obtain ⟨e, he, r, hr, hd⟩ := hd
   obtain ⟨_, _, ob, hb, ho⟩ := hH.obj id g 0 _ hp hi' (by simp)
   cases ob <;> simp only [ORel] at ho
   rename_i ces ck'
   obtain ⟨_, _, hes⟩ := ho
   have hck := checkKey_sound hk he hx ces.isEmpty w
   obtain ⟨q, hq, hf⟩ := findKey_sound (P := P) hk hx w hr hes
   have hrun : ∀ (vv : Value) (b : Bool), (match q with | some (_, v) => (v, true) | none => (zv, false)) = (vv, b) -> (Instr.lookup ty (.map (some g)) uk ok).run P w = .ok (if ok then .tuple #[vv, .bool b] else vv) w := by
    intro vv b hvb
    have hg : (getObj g).run P w = .ok (.map ces ck') w := by simp [getObj, Sem.run, hb]
    cases q with
    | none => simp at hvb; obtain ⟨rfl, rfl⟩ := hvb; simp [Instr.lookup, run_underlying hu, hg, hck, hq, hzrun]
    | some q => obtain ⟨j, u⟩ := q; simp at hvb; obtain ⟨rfl, rfl⟩ := hvb; simp [Instr.lookup, run_underlying hu, hg, hck, hq, hzrun]
   cases r with
   | none =>
    cases q with
    | some q => exact hf.elim
    | none =>
     simp only [Prod.mk.injEq] at hd
     obtain ⟨rfl, rfl⟩ := hd
     refine ⟨rfl, _, hrun zv false rfl, ?_⟩
     cases ok
     ·simpa using hzr
     ·simp only [if_true]; exact .tup _ _ (.cons _ _ _ _ hzr (.cons _ _ _ _ (.b _) .nil))
   | some r =>
    obtain ⟨i', v⟩ := r
    cases q with
    | none => exact hf.elim
    | some q =>
     obtain ⟨j, u⟩ := q
     simp only [Prod.mk.injEq] at hd
     obtain ⟨rfl, rfl⟩ := hd
     refine ⟨rfl, _, hrun u true rfl, ?_⟩
     cases ok
     ·simpa using hf.2
     ·simp only [if_true]; exact .tup _ _ (.cons _ _ _ _ hf.2 (.cons _ _ _ _ (.b _) .nil))
  ·cases hd

end Go.Dn

/-
 Operations, part 5: a map written; new memory; places.
-/

namespace Go.Dn

variable {P : Program} {B : Nat} {π : PMap} {H : Heap} {w : World} {av ex : Nat -> Prop}

theorem Ev.setObj (π : PMap) (w : World) (av : Nat -> Prop) {g : Nat} {ob ob' : Obj} (hg : w.heap[g]? = some ob) (hc : ∀ c e f, ob ≠ .cells c e f) (hlp : ∀ r, ob = .loop r -> ∃ r', ob' = .loop r') : Ev (only g) π w av π { w with heap := w.heap.setIfInBounds g ob' } av where
 map _ _ h := h
 blk x hx hn := by
  show (w.heap.setIfInBounds g ob')[x]? = _
  rw [Array.getElem?_setIfInBounds, if_neg (fun e => hn e.symm)]
 siz x cc el' fr' h := by
  by_cases he : x = g
  ·subst he
   rw [hg] at h
   injection h with h
   exact absurd h (hc _ _ _)
  ·refine ⟨cc, ?_, rfl⟩
   show (w.heap.setIfInBounds g ob')[x]? = _
   rw [Array.getElem?_setIfInBounds, if_neg (fun e => he e.symm)]
   exact h
 lop x r h := by
  by_cases he : x = g
  ·subst he
   rw [hg] at h
   injection h with h
   obtain ⟨r', hr⟩ := hlp r h
   refine ⟨r', ?_⟩
   show (w.heap.setIfInBounds x ob')[x]? = _
   have := (Array.getElem?_eq_some_iff.1 hg).1
   simp [this, hr]
  ·refine ⟨r, ?_⟩
   show (w.heap.setIfInBounds g ob')[x]? = _
   rw [Array.getElem?_setIfInBounds, if_neg (fun e => he e.symm)]
   exact h
 sub _ _ h := h
 len := by simp
 os := rfl
 tape := ⟨rfl, Nat.le_refl _⟩
 out := rfl

theorem heap_setObj {w : World} {g : Nat} {ob ob' : Obj} (hg : w.heap[g]? = some ob) : (w.heap.setIfInBounds g ob')[g]? = some ob' := by
 have := (Array.getElem?_eq_some_iff.1 hg).1
 simp [this]

theorem EsRel.push {π : PMap} {w : World} : ∀ {es : List (TV × TV × Nat)} {ces : List MapEntry} {k v : TV} {uk uv : Value} {n : Nat}, EsRel π w av ex es ces -> VRel π w av ex k uk -> VRel π w av ex v uv ->
  EsRel π w av ex (es ++ [(k, v, n)]) (ces ++ [{ key := uk, val := uv, born := n }])
 | [], [], k, v, uk, uv, n, _, hk, hv => ⟨hk, hv, rfl, trivial⟩
 | (a, b, c) :: es, d :: ces, k, v, uk, uv, n, h, hk, hv => ⟨h.1, h.2.1, h.2.2.1, EsRel.push h.2.2.2 hk hv⟩
 | [], _ :: _, _, _, _, _, _, h, _, _ => h.elim
 | _ :: _, [], _, _, _, _, _, h, _, _ => h.elim

theorem EsRel.modify {π : PMap} {w : World} : ∀ {es : List (TV × TV × Nat)} {ces : List MapEntry} {k v : TV} {uk uv : Value} (i : Nat), EsRel π w av ex es ces -> VRel π w av ex k uk -> VRel π w av ex v uv ->
  EsRel π w av ex (es.modify i fun e => (k, v, e.2.2)) (ces.modify i fun e => { e with key := uk, val := uv })
 | [], [], k, v, uk, uv, i, _, hk, hv => by simp [EsRel]
 | (a, b, c) :: es, d :: ces, k, v, uk, uv, 0, h, hk, hv => by simp only [List.modify_zero_cons]; exact ⟨hk, hv, h.2.2.1, h.2.2.2⟩
 | (a, b, c) :: es, d :: ces, k, v, uk, uv, i + 1, h, hk, hv => by simp only [List.modify_succ_cons]; exact ⟨h.1, h.2.1, h.2.2.1, EsRel.modify i h.2.2.2 hk hv⟩
 | [], _ :: _, _, _, _, _, _, h, _, _ => h.elim
 | _ :: _, [], _, _, _, _, _, h, _, _ => h.elim

theorem findK_key {kt : KT} {k : TV} : ∀ {es : List (TV × TV × Nat)} {i : Nat} {v : TV}, findK kt k es = some (some (i, v)) -> ∃ k' v' n, es[i]? = some (k', v', n) /\ eqK kt k k' = some true
 | [], i, v, h => by simp [findK] at h
 | (k', v', n) :: es, i, v, h => by
  simp only [findK, Option.bind_eq_some_iff] at h
  obtain ⟨e, he, h⟩ := h
  cases e with
  | true => simp only [if_true, Option.some.injEq, Prod.mk.injEq] at h; obtain ⟨rfl, rfl⟩ := h; exact ⟨k', v', n, rfl, he⟩
  | false =>
   simp only [Bool.false_eq_true, if_false, Option.map_eq_some_iff] at h
   obtain ⟨r, hr, h⟩ := h
   cases r with
   | none => simp at h
   | some r =>
    obtain ⟨j, u⟩ := r
    simp at h
    obtain ⟨rfl, rfl⟩ := h
    obtain ⟨a, b, c, h1, h2⟩ := findK_key hr
    exact ⟨a, b, c, by simpa using h1, h2⟩

theorem EsRel.get {π : PMap} {w : World} : ∀ {es : List (TV × TV × Nat)} {ces : List MapEntry} {i : Nat} {k v : TV} {n : Nat}, EsRel π w av ex es ces -> es[i]? = some (k, v, n) -> ∃ c, ces[i]? = some c /\ VRel π w av ex k c.key
 | [], [], i, k, v, n, _, h => by simp at h
 | (a, b, c) :: es, d :: ces, 0, k, v, n, h, hi => by simp at hi; obtain ⟨rfl, rfl, rfl⟩ := hi; exact ⟨d, rfl, h.1⟩
 | (a, b, c) :: es, d :: ces, i + 1, k, v, n, h, hi => by simpa using EsRel.get h.2.2.2 (by simpa using hi)
 | [], _ :: _, _, _, _, _, h, _ => h.elim
 | _ :: _, [], _, _, _, _, h, _ => h.elim

theorem sameBits_scalar {c : Bool} {x y : TV} {u v : Value} (n : Nat) (he : eqS c x y = some true) (hx : VRel π w av ex x u) (hy : VRel π w av ex y v) : Instr.sameBits n v u = true := by
 cases hx <;> cases c <;> simp only [eqS] at he <;> (try (cases he; done)) <;> cases hy <;> (try simp only [eqS] at he) <;> (try (cases he; done))
 ·injection he with he; simp at he; subst he; simp [Instr.sameBits]
 ·split at he
  ·rename_i hk; subst hk; injection he with he; simp at he; subst he; simp [Instr.sameBits]
  ·cases he

theorem sameBits_list (n : Nat) : ∀ {ks : List Bool} {x y : List TV} {us vs : List Value}, eqL ks x y = some true -> VsRel π w av ex x us -> VsRel π w av ex y vs -> ((vs.zip us).all fun (a, b) => Instr.sameBits n a b) = true /\ vs.length = us.length
 | [], [], [], us, vs, _, hx, hy => by cases hx; cases hy; simp
 | c :: ks, a :: x, b :: y, us, vs, h, hx, hy => by
  simp only [eqL, Option.bind_eq_some_iff, Option.map_eq_some_iff, Bool.and_eq_true] at h
  obtain ⟨e1, h1, e2, h2, he⟩ := h
  obtain ⟨rfl, rfl⟩ := he
  cases hx with | cons _ u _ us hu hus => cases hy with | cons _ v _ vs hv hvs =>
  have ih := sameBits_list n h2 hus hvs
  simp [sameBits_scalar n h1 hu hv]
  exact ⟨by simpa using ih.1, ih.2⟩
 | [], _ :: _, _, _, _, h, _, _ => by simp [eqL] at h
 | [], [], _ :: _, _, _, h, _, _ => by simp [eqL] at h
 | _ :: _, [], _, _, _, h, _, _ => by simp [eqL] at h
 | _ :: _, _ :: _, [], _, _, h, _, _ => by simp [eqL] at h

theorem keyThatStays_sound {kt : KT} {k k' : TV} {u u' : Value} (he : eqK kt k k' = some true) (hx : VRel π w av ex k u) (hy : VRel π w av ex k' u') (w' : World) : (Instr.keyThatStays u' u).run P w' = .ok u w' := by
 have : Instr.sameBits 10000 u' u = true := by
  cases kt with
  | int => exact sameBits_scalar 10000 (by simpa [eqK] using he) hx hy
  | flat ks =>
   obtain ⟨xs, ys, rfl, rfl, he⟩ := eqK_flat he
   cases hx; cases hy
   rename_i us h1 vs h2
   have := sameBits_list 9999 he h1 h2
   show Instr.sameBits (9999 + 1) _ _ = true
   simp only [Instr.sameBits, Bool.and_eq_true, beq_iff_eq]
   exact ⟨by simpa using this.2, this.1⟩
 simp [Instr.keyThatStays, this]

theorem mset_sound (hH : HRel P B π H w av ex) {kt : KT} {m k v t : TV} {um uk uv : Value} {H' : Heap} {ty kty ety : TypeId} (hd : dk (.mset kt) [m, k, v] H = some (t, H')) (hm : VRel π w av ex m um) (hx : VRel π w av ex k uk) (hv : VRel π w av ex v uv)
  (hu : P.underlying ty = some (.map kty ety)) (hk : keyT P kty kt = true) :
  t = .undef /\ ∃ g w', av g /\ B <= g /\ (Instr.mapUpdate ty um uk uv).run P w = .ok () w' /\ Ev (only g) π w av π w' av /\ HRel P B π H' w' av ex := by
 cases hm <;> simp only [dk] at hd <;> try (cases hd; done)
 rename_i id g hp
 split at hd
 ·rename_i es ck hi
  simp only [Option.bind_eq_some_iff, Option.map_eq_some_iff] at hd
  obtain ⟨e, he, r, hr, hd⟩ := hd
  obtain ⟨hBg, hav, ob, hb, ho⟩ := hH.obj id g 0 _ hp hi (by simp)
  cases ob <;> simp only [ORel] at ho
  rename_i ces ck'
  obtain ⟨_, rfl, hes⟩ := ho
  have hck := checkKey_sound hk he hx false w
  obtain ⟨q, hq, hf⟩ := findKey_sound (P := P) hk hx w hr hes
  have hg : (getObj g).run P w = .ok (.map ces ck') w := by simp [getObj, Sem.run, hb]
  have hset : ∀ o, (setObj g o).run P w = .ok () { w with heap := w.heap.setIfInBounds g o } := fun o => by simp [setObj, Sem.run, hb]
  have hw : ∀ x, x < w.heap.size -> only g x -> av x := fun x _ hx => by rw [show x = g from hx]; exact hav
  cases r with
  | none =>
   cases q with
   | some q => exact hf.elim
   | none =>
    simp only [Prod.mk.injEq] at hd
    obtain ⟨rfl, rfl⟩ := hd
    have ev := Ev.setObj π w av (ob' := .map (ces.push { key := uk, val := uv, born := ck' }) (ck' + 1)) hb (by simp) (by simp)
    refine ⟨rfl, g, _, hav, hBg, ?_, ev, hH.set hp hi (by simp) ev _ _ (heap_setObj hb) ?_⟩
    ·simp [Instr.mapUpdate, run_underlying hu, hg, hck, hq, hset]
    ·refine ⟨rfl, rfl, ?_⟩
     have := (EsRel.push (n := ck') hes hx hv).mono ev hw
     simpa using this
  | some r =>
   obtain ⟨i, v0⟩ := r
   cases q with
   | none => exact hf.elim
   | some q =>
    obtain ⟨j, u0⟩ := q
    simp only [FRel, Nat.zero_add] at hf
    obtain ⟨rfl, _⟩ := hf
    simp only [Prod.mk.injEq] at hd
    obtain ⟨rfl, rfl⟩ := hd
    obtain ⟨k', v', n, h1, h2⟩ := findK_key hr
    obtain ⟨c, hc, hck'⟩ := hes.get h1
    have hkts : (Instr.keyThatStays c.key uk).run P w = .ok uk w := keyThatStays_sound h2 hx hck' w
    have hc' : ces[j]? = some c := by rwa [Array.getElem?_toList] at hc
    have ev := Ev.setObj π w av (ob' := .map (ces.modify j fun e => { e with key := uk, val := uv }) ck') hb (by simp) (by simp)
    refine ⟨rfl, g, _, hav, hBg, ?_, ev, hH.set hp hi (by simp) ev _ _ (heap_setObj hb) ?_⟩
    ·simp [Instr.mapUpdate, run_underlying hu, hg, hck, hq, hset, hc', hkts]
    ·refine ⟨rfl, rfl, ?_⟩
     have := (EsRel.modify j hes hx hv).mono ev hw
     simpa using this
 ·cases hd

/-! ### a store -/
theorem st_sound (hH : HRel P B π H w av ex) {sz : Nat} {x v t : TV} {u uv : Value} {H' : Heap} {ty : TypeId} (hd : dk (.st sz) [x, v] H = some (t, H')) (hx : VRel π w av ex x u) (hv : VRel π w av ex v uv) (ht : szT P ty = some sz) :
  t = .undef /\ ∃ g w', av g /\ B <= g /\ (Instr.storeAt ty u uv).run P w = .ok () w' /\ Ev (only g) π w av π w' av /\ HRel P B π H' w' av ex := by
 cases hx <;> simp only [dk] at hd <;> try (cases hd; done)
 rename_i id off g sh hp
 split at hd
 ·rename_i c ag hi
  split at hd
  ·rename_i hc
   obtain ⟨h1, h2, h3⟩ := hc
   injection hd with hd
   injection hd with ht' hH'
   subst ht'; subst hH'
   have hne : v ≠ .undef := by rintro rfl; simp [TV.cells, TV.one] at h2
   have hvc := hv.cells hne
   have hlen := hvc.length
   obtain ⟨w', hr, he, hh⟩ := write_sound hH (off := off) hp hi hvc h2 (by omega)
   obtain ⟨hB, hav, _⟩ := hH.obj id g sh _ hp hi (by simp)
   refine ⟨rfl, g, w', hav, hB, ?_, he, hh⟩
   have hs : uv.cells.size = sz := by rw [<- h1, hlen]; simp
   simp [Instr.storeAt, Instr.sureAddr, storeVar, run_szOf P w ht, hs, hr]
  ·cases hd
 ·cases hd

/-! ### numbers as bounds -/
theorem bound_sound {x : TV} {n : Nat} {u : Value} (hb : bound x = some n) (hx : VRel π w av ex x u) : ∃ k, u = .int k n := by
 cases hx <;> simp only [bound] at hb <;> try (cases hb; done)
 rename_i k m
 split at hb
 ·injection hb with hb; exact ⟨k, by rw [<- hb]; congr 1; omega⟩
 ·cases hb

theorem addr_add (g o n : Nat) : (⟨g, o, none⟩ : Addr).add n = ⟨g, o + n, none⟩ := Addr.add_mid g o n

/-! ### fields -/
theorem bp_part {bo : Bool} {g o off sz : Nat} {ag : Bool} {l : List TV} {us : List Value} {v : TV} (h : VsRel π w av ex l us) (hm : MemAt w g o us) (ha : us ≠ [] -> ¬ av g /\ (bo = false -> ¬ ex g)) (hp : part sz ag off l = some v) :
  VRel π w av ex (.bp bo v) (.pointer (some ⟨g, o + off, none⟩)) := by
 unfold part at hp
 cases ag with
 | true =>
  simp only [if_true] at hp
  split at hp
  ·injection hp with hp
   subst hp
   refine .bp bo _ g (o + off) ((us.drop off).take sz) (by simpa [TV.cells] using (h.drop off).take sz) ?_ ?_
   ·intro j u hj
    rw [List.getElem?_take] at hj
    split at hj
    ·rw [List.getElem?_drop] at hj
     have := hm _ _ hj
     rwa [show o + (off + j) = o + off + j by omega] at this
    ·cases hj
   ·intro hn; exact ha (by rintro rfl; simp at hn)
  ·cases hp
 | false =>
  simp only [Bool.false_eq_true, if_false] at hp
  obtain ⟨y, hy, hr⟩ := h.get (part_get hp)
  have hna : v.isAgg = false := by
   cases hl : l[off]? with
   | none => simp [hl] at hp
   | some v' =>
    simp only [hl, Option.bind_some] at hp
    split at hp
    ·cases hp
    ·rename_i hh; injection hp with hp; subst hp; simpa using hh
  have hone : v.cells = [v] := by cases v <;> first | rfl | simp [TV.isAgg] at hna
  refine .bp bo v g (o + off) [y] (by rw [hone]; exact .cons _ _ _ _ hr .nil) ?_ ?_
  ·intro j u hj
   cases j with
   | zero => simp at hj; subst hj; simpa using hm _ _ hy
   | succ j => simp at hj
  ·intro _; exact ha (by rintro rfl; simp at hy)

theorem fadr_sound {off sz : Nat} {ag : Bool} {x t : TV} {u : Value} {H' : Heap} {ty : TypeId} {fs : Array Field} {f : Nat} {fd : Field} (hd : dk (.fadr off sz ag) [x] H = some (t, H')) (hx : VRel π w av ex x u)
  (hu : P.underlying ty = some (.struct fs)) (hf : fs[f]? = some fd) (ho : fd.offset = off) (ht : tyOk P fd.type sz ag = true) (hz : sz ≠ 0) (w' : World) :
  H' = H /\ ∃ v, (Instr.fieldAt ty u f).run P w' = .ok v w' /\ VRel π w av ex t v := by
 have hpl : ∀ g o, (fieldPlace ⟨g, o, none⟩ fd).run P w' = .ok ⟨g, o + off, none⟩ w' := fun g o => by
  simp [fieldPlace, run_szOf P w' (tyOk.sz ht), hz, ho, addr_add]
 cases hx <;> simp only [dk] at hd <;> try (cases hd; done)
 case ref id o g sh hp =>
  injection hd with hd
  injection hd with h1 h2
  subst h1; subst h2
  refine ⟨rfl, _, ?_, .ref id (o + off) g sh hp⟩
  simp [Instr.fieldAt, run_underlying hu, hf, Instr.sureAddr, hpl, Nat.add_assoc]
 case bp bo v g o us h hm ha =>
  cases v <;> simp only [] at hd <;> try (cases hd; done)
  rename_i l
  simp only [Option.map_eq_some_iff, Prod.mk.injEq] at hd
  obtain ⟨v, hp, rfl, rfl⟩ := hd
  exact ⟨rfl, .pointer (some ⟨g, o + off, none⟩), by simp [Instr.fieldAt, run_underlying hu, hf, Instr.sureAddr, hpl], bp_part h hm ha hp⟩

theorem fld_sound {off sz : Nat} {ag : Bool} {x t : TV} {u : Value} {H' : Heap} {ty : TypeId} {fs : Array Field} {f : Nat} {fd : Field} (hd : dk (.fld off sz ag) [x] H = some (t, H')) (hx : VRel π w av ex x u)
  (hu : P.underlying ty = some (.struct fs)) (hf : fs[f]? = some fd) (ho : fd.offset = off) (ht : tyOk P fd.type sz ag = true) (w' : World) :
  H' = H /\ ∃ v, (Instr.field ty u f).run P w' = .ok v w' /\ VRel π w av ex t v := by
 cases hx <;> simp only [dk] at hd <;> try (cases hd; done)
 rename_i l us h
 simp only [Option.map_eq_some_iff, Prod.mk.injEq] at hd
 obtain ⟨v, hp, rfl, rfl⟩ := hd
 obtain ⟨v', hv, hr⟩ := part_sound hp h ht w'
 exact ⟨rfl, v', by simp [Instr.field, run_underlying hu, hf, asAgg, ho, hv], hr⟩

/-! ### indexes -/
theorem asIntOf_int (k : IntKind) (n : Int) (w' : World) : (asIntOf (.int k n)).run P w' = .ok (k, n) w' := rfl

theorem flat_seg {sz : Nat} : ∀ {es : List TV} {i : Nat} {e : TV}, (∀ e, e ∈ es -> e.cells.length = sz) -> es[i]? = some e -> ((es.flatMap TV.cells).drop (i * sz)).take sz = e.cells
 | [], i, e, _, h => by simp at h
 | a :: es, 0, e, hz, h => by simp at h; subst h; simp [<- hz a (by simp)]
 | a :: es, i + 1, e, hz, h => by
  have ih := flat_seg (es := es) (fun e he => hz e (by simp [he])) (i := i) (e := e) (by simpa using h)
  simp only [List.flatMap_cons]
  have ha := hz a (by simp)
  rw [show (i + 1) * sz = a.cells.length + i * sz by rw [ha, Nat.succ_mul]; omega, <- List.drop_drop]
  simpa using ih

theorem ixS_sound {sz : Nat} {ag : Bool} {x y t : TV} {u uy : Value} {H' : Heap} {ty e : TypeId} (hd : dk (.ixS sz ag) [x, y] H = some (t, H')) (hx : VRel π w av ex x u) (hy : VRel π w av ex y uy)
  (hu : P.underlying ty = some (.slice e)) (ht : tyOk P e sz ag = true) (w' : World) :
  H' = H /\ ∃ v, (Instr.indexAt ty u uy).run P w' = .ok v w' /\ VRel π w av ex t v := by
 simp only [dk, Option.bind_eq_some_iff] at hd
 obtain ⟨i, hb, hd⟩ := hd
 obtain ⟨k, rfl⟩ := bound_sound hb hy
 have key : ∀ (g o len c : Nat), i < len -> (Instr.indexAt ty (.slice (some ⟨g, o, none⟩) len c) (.int k (i : Int))).run P w' = .ok (.pointer (some ⟨g, o + i * sz, none⟩)) w' := by
  intro g o len c hl
  simp [Instr.indexAt, asIntOf_int, run_underlying hu, hl, run_szOf P w' (tyOk.sz ht), addr_add]
 cases hx <;> simp only [] at hd <;> try (cases hd; done)
 case sl id off sz' ag' len cap g sh c cc el fr hp hbl hlc hcap hs =>
  split at hd
  ·rename_i hc
   obtain ⟨hl, rfl⟩ := hc
   injection hd with hd
   injection hd with h1 h2
   subst h1; subst h2
   exact ⟨rfl, _, key g (sh + off) len c hl, by rw [Nat.add_assoc]; exact .ref id (off + i * sz') g sh hp⟩
  ·cases hd
 case bs bo sz' es g off c us h hz hm ha hl =>
  split at hd
  ·rename_i hsz
   subst hsz
   simp only [Option.map_eq_some_iff, Prod.mk.injEq] at hd
   obtain ⟨e', he, rfl, rfl⟩ := hd
   have hi : i < es.length := (List.getElem?_eq_some_iff.1 he).1
   refine ⟨rfl, _, key g off es.length c hi, ?_⟩
   have hseg := flat_seg hz he
   refine .bp bo e' g (off + i * sz') ((us.drop (i * sz')).take sz') (by rw [<- hseg]; exact (h.drop _).take _) ?_ ?_
   ·intro j u hj
    rw [List.getElem?_take] at hj
    split at hj
    ·rw [List.getElem?_drop] at hj
     have := hm _ _ hj
     rwa [show off + (i * sz' + j) = off + i * sz' + j by omega] at this
    ·cases hj
   ·intro hn; exact ha (by rintro rfl; simp at hn)
  ·cases hd
 case bs0 bo sz' a c => simp at hd

theorem ixA_sound {n sz : Nat} {ag : Bool} {x y t : TV} {u uy : Value} {H' : Heap} {ty e : TypeId} (hd : dk (.ixA n sz ag) [x, y] H = some (t, H')) (hx : VRel π w av ex x u) (hy : VRel π w av ex y uy)
  (hu : P.underlying ty = some (.array n e)) (ht : tyOk P e sz ag = true) (w' : World) :
  H' = H /\ ∃ v, (Instr.indexAt ty u uy).run P w' = .ok v w' /\ VRel π w av ex t v := by
 simp only [dk, Option.bind_eq_some_iff] at hd
 obtain ⟨i, hb, hd⟩ := hd
 obtain ⟨k, rfl⟩ := bound_sound hb hy
 split at hd
 ·rename_i hl
  have key : ∀ (g o : Nat), (Instr.indexAt ty (.pointer (some ⟨g, o, none⟩)) (.int k (i : Int))).run P w' = .ok (.pointer (some ⟨g, o + i * sz, none⟩)) w' := by
   intro g o
   simp [Instr.indexAt, asIntOf_int, run_underlying hu, hl, run_szOf P w' (tyOk.sz ht), addr_add, Instr.sureAddr]
  cases hx <;> (try simp only [] at hd) <;> (try (cases hd; done))
  case ref id o g sh hp =>
   injection hd with hd
   injection hd with h1 h2
   subst h1; subst h2
   exact ⟨rfl, _, key g (sh + o), by rw [Nat.add_assoc]; exact .ref id (o + i * sz) g sh hp⟩
  case bp bo v g o us h hm ha =>
   cases v <;> (try simp only [] at hd) <;> (try (cases hd; done))
   simp only [Option.map_eq_some_iff, Prod.mk.injEq] at hd
   obtain ⟨v, hp, rfl, rfl⟩ := hd
   exact ⟨rfl, _, key g o, bp_part h hm ha hp⟩
 ·cases hd

theorem idx_sound {n sz : Nat} {ag : Bool} {x y t : TV} {u uy : Value} {H' : Heap} {ty e : TypeId} (hd : dk (.idx n sz ag) [x, y] H = some (t, H')) (hx : VRel π w av ex x u) (hy : VRel π w av ex y uy)
  (hu : P.underlying ty = some (.array n e)) (ht : tyOk P e sz ag = true) (w' : World) :
  H' = H /\ ∃ v, (Instr.index ty u uy).run P w' = .ok v w' /\ VRel π w av ex t v := by
 cases hx <;> simp only [dk] at hd <;> try (cases hd; done)
 rename_i l us h
 simp only [Option.bind_eq_some_iff] at hd
 obtain ⟨i, hb, hd⟩ := hd
 obtain ⟨k, rfl⟩ := bound_sound hb hy
 split at hd
 ·rename_i hl
  simp only [Option.map_eq_some_iff, Prod.mk.injEq] at hd
  obtain ⟨v, hp, rfl, rfl⟩ := hd
  obtain ⟨v', hv, hr⟩ := part_sound hp h ht w'
  exact ⟨rfl, v', by simp [Instr.index, asIntOf_int, run_underlying hu, hl, run_szOf P w' (tyOk.sz ht), hv], hr⟩
 ·cases hd

theorem ixStr_sound {x y t : TV} {u uy : Value} {H' : Heap} {ty : TypeId} (hd : dk .ixStr [x, y] H = some (t, H')) (hx : VRel π w av ex x u) (hy : VRel π w av ex y uy) (hu : P.underlying ty = some .string) (w' : World) :
  H' = H /\ ∃ v, (Instr.index ty u uy).run P w' = .ok v w' /\ VRel π w av ex t v := by
 cases hx <;> simp only [dk] at hd <;> try (cases hd; done)
 rename_i s
 simp only [Option.bind_eq_some_iff, Option.map_eq_some_iff, Prod.mk.injEq] at hd
 obtain ⟨i, hb, b, hs, rfl, rfl⟩ := hd
 obtain ⟨k, rfl⟩ := bound_sound hb hy
 exact ⟨rfl, _, by simp [Instr.index, asIntOf_int, run_underlying hu, hs], .i _ _⟩

end Go.Dn

/-
 Operations, part 6: slice expressions.
-/

namespace Go.Dn

variable {P : Program} {B : Nat} {π : PMap} {H : Heap} {w : World} {av ex : Nat -> Prop}

theorem run_sliceBound {k : IntKind} {n y : Nat} (h : n <= y) (c : BoundsCode) (w' : World) : (Instr.sliceBound (.int k (n : Int)) y c).run P w' = .ok n w' := by
 simp [Instr.sliceBound, asIntOf_int, h]

theorem optO_cases {f : Bool} {x : Option Operand} {os : List Operand} (h : optO f x = some os) : (f = false /\ x = none /\ os = []) \/ (∃ o, f = true /\ x = some o /\ os = [o]) := by
 cases f <;> cases x <;> simp [optO] at h <;> simp [h]

theorem bounds_sound {lo hi mx : Bool} {L Hh M : Option Operand} {os : List Operand} {ρ : Operand -> Value} {vs : List TV} {len cap l h : Nat} {m : Option Nat} (hb : boundsO lo hi mx L Hh M = some os)
  (hv : VsRel π w av ex vs (os.map ρ)) (h3 : bounds3 lo hi mx len vs = some (l, h, m)) (hm : h <= m.getD cap) (hc : m.getD h <= cap) (b : Bool) (w' : World) :
  (Instr.sliceBounds b len cap (L.map ρ) (Hh.map ρ) (M.map ρ)).run P w' = .ok (l, h, m.getD cap) w' /\ l <= h := by
 unfold boundsO at hb
 split at hb <;> try (cases hb; done)
 rename_i a1 b1 c1 ha1 hb1 hc1
 split at hb
 ·cases hb
 rename_i hmh
 injection hb with hb
 subst hb
 simp only [bounds3, Option.bind_eq_some_iff] at h3
 obtain ⟨l', hl, h', hh, m', hm', h3⟩ := h3
 split at h3 <;> try (cases h3; done)
 rename_i hle
 simp only [Option.some.injEq, Prod.mk.injEq] at h3
 obtain ⟨rfl, rfl, rfl⟩ := h3
 refine ⟨?_, hle⟩
 rcases optO_cases ha1 with ⟨rfl, rfl, rfl⟩ | ⟨o1, rfl, rfl, rfl⟩ <;>
 rcases optO_cases hb1 with ⟨rfl, rfl, rfl⟩ | ⟨o2, rfl, rfl, rfl⟩ <;>
 rcases optO_cases hc1 with ⟨rfl, rfl, rfl⟩ | ⟨o3, rfl, rfl, rfl⟩ <;> simp only [List.nil_append, List.cons_append, List.map_cons, List.map_nil] at hv <;> (try (simp at hmh; done))
 ·cases hv
  simp at hl hh hm'
  subst hl; subst hh; subst hm'
  simp [Instr.sliceBounds]
 ·obtain ⟨t, rfl, h1⟩ := hv.inv1
  simp at hl hh hm'
  subst hl; subst hm'
  obtain ⟨k, hk⟩ := bound_sound hh h1
  simp at hc hm
  simp [Instr.sliceBounds, hk, run_sliceBound hm]
 ·obtain ⟨t, s, rfl, h1, h2⟩ := hv.inv2
  simp at hl hh hm'
  subst hl
  obtain ⟨n, hn, rfl⟩ := hm'
  obtain ⟨k, hk⟩ := bound_sound hh h1
  obtain ⟨k2, hk2⟩ := bound_sound hn h2
  simp at hc hm
  simp [Instr.sliceBounds, hk, hk2, run_sliceBound hm, run_sliceBound hc]
 ·obtain ⟨t, rfl, h1⟩ := hv.inv1
  simp at hl hh hm'
  subst hh; subst hm'
  obtain ⟨k, hk⟩ := bound_sound hl h1
  simp [Instr.sliceBounds, hk, run_sliceBound hle]
 ·obtain ⟨t, s, rfl, h1, h2⟩ := hv.inv2
  simp at hl hh hm'
  subst hm'
  obtain ⟨k, hk⟩ := bound_sound hl h1
  obtain ⟨k2, hk2⟩ := bound_sound hh h2
  simp at hc hm
  simp [Instr.sliceBounds, hk, hk2, run_sliceBound hm, run_sliceBound hle]
 ·obtain ⟨t, s, r, rfl, h1, h2, h4⟩ := hv.inv3
  simp at hl hh hm'
  obtain ⟨n, hn, rfl⟩ := hm'
  obtain ⟨k, hk⟩ := bound_sound hl h1
  obtain ⟨k2, hk2⟩ := bound_sound hh h2
  obtain ⟨k3, hk3⟩ := bound_sound hn h4
  simp at hc hm
  simp [Instr.sliceBounds, hk, hk2, hk3, run_sliceBound hm, run_sliceBound hle, run_sliceBound hc]

theorem flat_drop {sz : Nat} : ∀ {es : List TV} (i : Nat), (∀ e, e ∈ es -> e.cells.length = sz) -> (es.drop i).flatMap TV.cells = (es.flatMap TV.cells).drop (i * sz)
 | [], i, _ => by simp
 | a :: es, 0, hz => by simp
 | a :: es, i + 1, hz => by
  have ih := flat_drop (es := es) i (fun e he => hz e (by simp [he]))
  have ha := hz a (by simp)
  rw [List.drop_succ_cons, ih, List.flatMap_cons, show (i + 1) * sz = a.cells.length + i * sz by rw [ha, Nat.succ_mul]; omega, <- List.drop_drop]
  simp

theorem flat_take {sz : Nat} : ∀ {es : List TV} (i : Nat), (∀ e, e ∈ es -> e.cells.length = sz) -> (es.take i).flatMap TV.cells = (es.flatMap TV.cells).take (i * sz)
 | [], i, _ => by simp
 | a :: es, 0, hz => by simp
 | a :: es, i + 1, hz => by
  have ih := flat_take (es := es) i (fun e he => hz e (by simp [he]))
  have ha := hz a (by simp)
  rw [List.take_succ_cons, List.flatMap_cons, List.flatMap_cons, ih, show (i + 1) * sz = a.cells.length + i * sz by rw [ha, Nat.succ_mul]; omega, List.take_length_add_append]

theorem MemAt.sub {g o a n : Nat} {us : List Value} (hm : MemAt w g o us) : MemAt w g (o + a) ((us.drop a).take n) := by
 intro j u hj
 rw [List.getElem?_take] at hj
 split at hj
 ·rw [List.getElem?_drop] at hj
  have := hm _ _ hj
  rwa [show o + (a + j) = o + a + j by omega] at this
 ·cases hj

theorem bs_sub {bo : Bool} {sz : Nat} {es : List TV} {g off : Nat} {us : List Value} (h : VsRel π w av ex (es.flatMap TV.cells) us) (hz : ∀ e, e ∈ es -> e.cells.length = sz) (hm : MemAt w g off us)
  (ha : us ≠ [] -> ¬ av g /\ (bo = false -> ¬ ex g)) (l n c : Nat) (hn : ((es.drop l).take n).length <= c) : VRel π w av ex (.bs bo sz ((es.drop l).take n)) (.slice (some ⟨g, off + l * sz, none⟩) ((es.drop l).take n).length c) := by
 refine .bs bo sz _ g (off + l * sz) c ((us.drop (l * sz)).take (n * sz)) ?_ (fun e he => hz e (List.mem_of_mem_drop (List.mem_of_mem_take he))) hm.sub ?_ hn
 ·rw [flat_take n (fun e he => hz e (List.mem_of_mem_drop he)), flat_drop l hz]
  exact (h.drop _).take _
 ·intro hn; exact ha (by rintro rfl; simp at hn)

theorem slc_sound {lo hi mx : Bool} {L Hh M : Option Operand} {os : List Operand} {ρ : Operand -> Value} {sz : Nat} {ag : Bool} {x t : TV} {u : Value} {vs : List TV} {ty e : TypeId} (hd : slcRun lo hi mx sz ag x vs = some t)
  (hx : VRel π w av ex x u) (hb : boundsO lo hi mx L Hh M = some os) (hv : VsRel π w av ex vs (os.map ρ)) (hu : P.underlying ty = some (.slice e)) (ht : tyOk P e sz ag = true) (w' : World) :
  ∃ v, (Instr.sliceAt ty u (L.map ρ) (Hh.map ρ) (M.map ρ)).run P w' = .ok v w' /\ VRel π w av ex t v := by
 have hrun : ∀ (a : Option Addr) (len cap l h m : Nat), (Instr.sliceBounds true len cap (L.map ρ) (Hh.map ρ) (M.map ρ)).run P w' = .ok (l, h, m) w' ->
   (Instr.sliceAt ty (.slice a len cap) (L.map ρ) (Hh.map ρ) (M.map ρ)).run P w' = .ok (.slice (if m = l then a else a.map (·.add (l * sz))) (h - l) (m - l)) w' := by
  intro a len cap l h m hr
  simp [Instr.sliceAt, Instr.slice, run_underlying hu, hr, run_szOf P w' (tyOk.sz ht)]
 unfold slcRun at hd
 cases hx <;> simp only [] at hd <;> try (cases hd; done)
 case nilsl =>
  simp only [Option.bind_eq_some_iff] at hd
  obtain ⟨⟨l, h, m⟩, h3, hd⟩ := hd
  simp only at hd
  split at hd <;> try (cases hd; done)
  rename_i hc
  injection hd with hd
  subst hd
  obtain ⟨rfl, hm0⟩ := hc
  have hb0 := bounds_sound (P := P) hb hv h3 (cap := 0) (by omega) (by cases m <;> simp at hm0 ⊢; omega) true w'
  obtain ⟨hr, hl⟩ := hb0
  have hl0 : l = 0 := by omega
  subst hl0
  have hm1 : m.getD 0 = 0 := hm0
  rw [hm1] at hr
  exact ⟨_, hrun none 0 0 0 0 0 hr, by simpa using VRel.nilsl⟩
 case esl a =>
  simp only [Option.bind_eq_some_iff] at hd
  obtain ⟨⟨l, h, m⟩, h3, hd⟩ := hd
  simp only at hd
  split at hd <;> try (cases hd; done)
  rename_i hc
  injection hd with hd
  subst hd
  obtain ⟨rfl, hm0⟩ := hc
  obtain ⟨hr, hl⟩ := bounds_sound (P := P) hb hv h3 (cap := 0) (by omega) (by cases m <;> simp at hm0 ⊢; omega) true w'
  have hl0 : l = 0 := by omega
  subst hl0
  have hm1 : m.getD 0 = 0 := hm0
  rw [hm1] at hr
  exact ⟨_, hrun (some a) 0 0 0 0 0 hr, by simpa using VRel.esl a⟩
 case sl id off sz' ag' len cap g sh c cc el fr hp hbl hlc hcap hs =>
  simp only [Option.bind_eq_some_iff] at hd
  obtain ⟨⟨l, h, m⟩, h3, hd⟩ := hd
  simp only at hd
  split at hd <;> try (cases hd; done)
  rename_i hc
  obtain ⟨rfl, h1, h2⟩ := hc
  have hcc : cap.getD len <= c := by cases cap with | none => simpa using hlc | some k => simp [hcap k rfl]
  obtain ⟨hr, hl⟩ := bounds_sound (P := P) hb hv h3 (cap := c) (by cases m with | none => simp at h2 ⊢; omega | some m => simpa using h1) (by omega) true w'
  refine ⟨_, hrun _ len c l h _ hr, ?_⟩
  have hmc : m.getD c <= c := by cases m with | none => simp | some m => simp at h2 ⊢; omega
  have hhm : h <= m.getD c := by cases m with | none => simp at h2 ⊢; omega | some m => simpa using h1
  split at hd
  ·rename_i hml
   injection hd with hd
   subst hd
   subst hml
   have : h = l := by simp at h1; omega
   subst this
   simp only [Option.getD_some, if_true, Nat.sub_self]
   exact .esl _
  ·rename_i hml
   injection hd with hd
   subst hd
   by_cases hml2 : m.getD c = l
   ·-- no room is left
    have hm : m = none := by
     cases m with
     | none => rfl
     | some m => simp at hml2; exact absurd (by rw [hml2]) hml
    subst hm
    simp at hml2 hhm
    subst hml2
    have : h = c := by omega
    subst this
    simp only [Option.getD_none, if_true, Nat.sub_self]
    refine .sl0 _ _ _ _ _ _ (fun k hk => ?_)
    cases cap with
    | none => simp at hk
    | some k' => simp at hk; have := hcap k' rfl; omega
   ·rw [if_neg hml2]
    simp only [Option.map_some, addr_add]
    rw [Nat.add_assoc]
    refine .sl id (off + l * sz') sz' ag (h - l) _ g sh (m.getD c - l) cc el fr hp hbl (by omega) (fun k hk => ?_) ?_
    ·cases m with
     | none =>
      cases cap with
      | none => simp at hk
      | some k' => simp at hk; have := hcap k' rfl; simp; omega
     | some m => simp at hk ⊢; omega
    ·have : l * sz' + (m.getD c - l) * sz' <= c * sz' := by rw [<- Nat.add_mul]; exact Nat.mul_le_mul_right _ (by omega)
     omega
 case sl0 id off sz' ag' cap a hcap =>
  simp only [Option.bind_eq_some_iff] at hd
  obtain ⟨⟨l, h, m⟩, h3, hd⟩ := hd
  simp only at hd
  split at hd <;> try (cases hd; done)
  rename_i hc
  obtain ⟨rfl, h1, h2⟩ := hc
  have hcc : cap.getD 0 = 0 := by cases cap with | none => rfl | some k => simp [hcap k rfl]
  rw [hcc] at h2
  have hh0 : h = 0 := by omega
  subst hh0
  obtain ⟨hr, hl⟩ := bounds_sound (P := P) hb hv h3 (cap := 0) (by omega) (by cases m <;> simp at h2 ⊢; omega) true w'
  have hl0 : l = 0 := by omega
  subst hl0
  refine ⟨_, hrun _ 0 0 0 0 _ hr, ?_⟩
  have hm0 : m.getD 0 = 0 := by omega
  rw [hm0]
  simp only [if_true, Nat.sub_self]
  split at hd
  ·injection hd with hd; subst hd; exact .esl _
  ·injection hd with hd
   subst hd
   refine .sl0 _ _ _ _ _ _ (fun k hk => ?_)
   cases m with
   | some m => simp at hk hm0; omega
   | none => cases cap with
    | none => simp at hk
    | some k' => simp at hk; have := hcap k' rfl; omega
 case bs bo sz' es g off c us hh hz hm ha hl =>
  simp only [Option.bind_eq_some_iff] at hd
  obtain ⟨⟨l, h, m⟩, h3, hd⟩ := hd
  simp only at hd
  split at hd <;> try (cases hd; done)
  rename_i hc
  obtain ⟨rfl, h0, h1, h2⟩ := hc
  have hhm : h <= m.getD c := by cases m with | none => simp; omega | some m => simpa using h1
  have hmc : m.getD c <= c := by cases m with | none => simp | some m => simp at h2 ⊢; omega
  obtain ⟨hr, hlh⟩ := bounds_sound (P := P) hb hv h3 (cap := c) hhm (by cases m with | none => simp; omega | some m => simp at h2 ⊢; omega) true w'
  refine ⟨_, hrun _ es.length c l h _ hr, ?_⟩
  split at hd
  ·rename_i hml
   injection hd with hd
   subst hd
   subst hml
   have : h = l := by simp at h1; omega
   subst this
   simp only [Option.getD_some, if_true, Nat.sub_self]
   exact .esl _
  ·rename_i hml
   injection hd with hd
   subst hd
   have hlen : ((es.drop l).take (h - l)).length = h - l := by simp; omega
   by_cases hml2 : m.getD c = l
   ·rw [if_pos hml2]
    have hz0 : h - l = 0 := by omega
    rw [hz0]
    simp only [List.take_zero]
    exact .bs0 _ _ _ _
   ·rw [if_neg hml2]
    simp only [Option.map_some, addr_add]
    have := bs_sub hh hz hm ha l (h - l) (m.getD c - l) (by rw [hlen]; omega)
    rw [hlen] at this
    exact this
 case bs0 bo sz' a c =>
  simp only [Option.bind_eq_some_iff] at hd
  obtain ⟨⟨l, h, m⟩, h3, hd⟩ := hd
  simp only at hd
  split at hd <;> try (cases hd; done)
  rename_i hc
  obtain ⟨rfl, h0, h1, h2⟩ := hc
  simp at h0 h2 h3
  subst h0
  obtain ⟨hr, hlh⟩ := bounds_sound (P := P) hb hv h3 (cap := c) (by omega) (by cases m <;> simp at h2 ⊢; omega) true w'
  have hl0 : l = 0 := by omega
  subst hl0
  refine ⟨_, hrun _ 0 c 0 0 _ hr, ?_⟩
  have hm' : m = none \/ m = some 0 := by
   cases m with
   | none => exact .inl rfl
   | some m => simp at h2; exact .inr (by rw [h2])
  rcases hm' with rfl | rfl
  ·rw [if_neg (by simp)] at hd
   injection hd with hd
   subst hd
   simp only [Option.getD_none]
   split
   ·rename_i hc0
    subst hc0
    simpa using VRel.bs0 bo sz' a 0
   ·simpa using VRel.bs0 bo sz' _ c
  ·rw [if_pos rfl] at hd
   injection hd with hd
   subst hd
   simpa using VRel.esl a

theorem slcA_sound {lo hi mx : Bool} {L Hh M : Option Operand} {os : List Operand} {ρ : Operand -> Value} {n sz : Nat} {ag : Bool} {x t : TV} {u : Value} {vs : List TV} {ty e : TypeId} (hd : slcARun lo hi mx n sz ag x vs H = some t)
  (hH : HRel P B π H w av ex) (hx : VRel π w av ex x u) (hb : boundsO lo hi mx L Hh M = some os) (hv : VsRel π w av ex vs (os.map ρ)) (hu : P.underlying ty = some (.array n e)) (ht : tyOk P e sz ag = true) :
  ∃ v, (Instr.sliceAt ty u (L.map ρ) (Hh.map ρ) (M.map ρ)).run P w = .ok v w /\ VRel π w av ex t v := by
 have hrun : ∀ (g o l h m : Nat), (Instr.sliceBounds false n n (L.map ρ) (Hh.map ρ) (M.map ρ)).run P w = .ok (l, h, m) w ->
   (Instr.sliceAt ty (.pointer (some ⟨g, o, none⟩)) (L.map ρ) (Hh.map ρ) (M.map ρ)).run P w = .ok (.slice (some (if m = l then ⟨g, o, none⟩ else ⟨g, o + l * sz, none⟩)) (h - l) (m - l)) w := by
  intro g o l h m hr
  simp [Instr.sliceAt, Instr.sureAddr, run_underlying hu, hr, run_szOf P w (tyOk.sz ht), addr_add]
 unfold slcARun at hd
 simp only [Option.bind_eq_some_iff] at hd
 obtain ⟨⟨l, h, m⟩, h3, hd⟩ := hd
 simp only at hd
 split at hd <;> try (cases hd; done)
 rename_i hc
 obtain ⟨h1, h2⟩ := hc
 have hhm : h <= m.getD n := by cases m with | none => simpa using h2 | some m => simpa using h1
 have hmn : m.getD n <= n := by cases m with | none => simp | some m => simpa using h2
 obtain ⟨hr, hlh⟩ := bounds_sound (P := P) hb hv h3 (cap := n) hhm h2 false w
 cases hx <;> (try simp only [] at hd) <;> (try (cases hd; done))
 case ref id off g sh hp =>
  split at hd <;> try (cases hd; done)
  rename_i c ag0 hi
  split at hd <;> try (cases hd; done)
  rename_i hroom
  obtain ⟨_, _, ob, hbk, ho⟩ := hH.obj id g sh _ hp hi (by simp)
  cases ob <;> simp only [ORel] at ho
  rename_i cc el fr
  obtain ⟨rfl, hsz, _⟩ := ho
  refine ⟨_, hrun g (sh + off) l h _ hr, ?_⟩
  split at hd
  ·rename_i hml
   injection hd with hd
   subst hd
   rw [if_pos hml, hml]
   have : h = l := by omega
   subst this
   simp only [Nat.sub_self]
   exact .esl _
  ·rename_i hml
   injection hd with hd
   subst hd
   rw [if_neg hml, Nat.add_assoc]
   refine .sl id (off + l * sz) sz ag (h - l) _ g sh (m.getD n - l) cc el _ hp hbk (by omega) (fun k hk => by simpa using hk.symm) ?_
   have : l * sz + (m.getD n - l) * sz <= n * sz := by rw [<- Nat.add_mul]; exact Nat.mul_le_mul_right _ (by omega)
   omega
 case bp bo v g off us hh hm ha =>
  cases v <;> (try simp only [] at hd) <;> (try (cases hd; done))
  rename_i cs
  split at hd <;> try (cases hd; done)
  rename_i hc
  obtain ⟨rfl, rfl, hcl, hone⟩ := hc
  refine ⟨_, hrun g off l h _ hr, ?_⟩
  split at hd
  ·rename_i hml
   injection hd with hd
   subst hd
   rw [if_pos hml, hml]
   have : h = l := by omega
   subst this
   simp only [Nat.sub_self]
   exact .esl _
  ·rename_i hml
   injection hd with hd
   subst hd
   rw [if_neg hml]
   simp only [TV.cells] at hh
   have hlen : ((cs.drop l).take (h - l)).length = h - l := by simp; omega
   have hz : ∀ e, e ∈ cs -> e.cells.length = 1 := fun e he => by
    have := List.all_eq_true.1 hone e he
    cases e <;> first | rfl | simp [TV.one] at this
   have hfl : ∀ l : List TV, l.all TV.one = true -> l.flatMap TV.cells = l := by
    intro l hl
    induction l with
    | nil => rfl
    | cons a l ih =>
     simp only [List.all_cons, Bool.and_eq_true] at hl
     have : a.cells = [a] := by cases a <;> first | rfl | simp [TV.one] at hl
     simp [this, ih hl.2]
   have := bs_sub (bo := bo) (es := cs) (by rw [hfl cs hone]; exact hh) hz hm ha l (h - l) (m.getD n - l) (by rw [hlen]; omega)
   rwa [hlen] at this

end Go.Dn

/-
 Operations, part 7: new memory, append, length, and the rest.
-/

namespace Go.Dn

variable {P : Program} {B : Nat} {π : PMap} {H : Heap} {w : World} {av ex : Nat -> Prop}

theorem Res.new (wr : Nat -> Prop) (hH : HRel P B π H w av ex) (hf : π H.length = none) (ob : Obj) (o : AObj) (hd : o ≠ .dead) (ho : ∀ π' w' av', Ev none' π w av π' w' av' -> ORel P π' w' av' ex 0 o ob) :
  Res P B wr π H w av ex (H ++ [o]) (w.alloc ob) (π.add H.length w.heap.size) (avAdd av w.heap.size) := by
 refine ⟨Ev.new wr π w av ob _ hf, hH.new hf ob o hd (ho _ _ _ (Ev.new none' π w av ob _ hf)), fun id hn => ?_, fun _ x => .inl x, by simp, fun id g sh hn hg => ?_⟩
 ·unfold PMap.add at hn
  split at hn
  ·rename_i he; subst he; simp
  ·exact absurd rfl hn
 ·unfold PMap.add at hn hg
  split at hg
  ·injection hg with hg; injection hg with hg; exact .inl (by omega)
  ·rename_i h; rw [if_neg h] at hn; exact absurd rfl hn

theorem PMap.add_self (π : PMap) (id g : Nat) : (π.add id g) id = some (g, 0) := by simp [PMap.add]

theorem new_cells (W : Bool) (hH : HRel P B π H w av ex) (hf : π H.length = none) {c : List TV} {us : List Value} {cc : Array Value} (el : TypeId) (ag : Bool) (hc : VsRel π w av ex c us) (ho : c.all TV.one = true)
  (hu : ∀ (j : Nat) (u : Value), us[j]? = some u -> cc[j]? = some u) (hl : c.length <= cc.size) :
  Res P B (wrK B av W) π H w av ex (H ++ [.cells c ag]) (w.alloc (.cells cc el)) (π.add H.length w.heap.size) (avAdd av w.heap.size) :=
 Res.new _ hH hf _ _ (by simp) fun π' w' av' e => ⟨rfl, by omega, ho, us, hc.mono e (fun _ _ x => x.elim), fun j u h => by simpa using hu j u h⟩

theorem VsRel.self_get {us : List Value} {cc : Array Value} (h : cc.toList = us) (j : Nat) (u : Value) (hj : us[j]? = some u) : cc[j]? = some u := by
 subst h; simpa using hj

theorem alloc_sound (W : Bool) (hH : HRel P B π H w av ex) (hf : π H.length = none) {z : List TV} {ag : Bool} {t : TV} {H' : Heap} {ty : TypeId} (hd : dk (.alloc z ag) [] H = some (t, H')) (hz : zeroOk P ty z = true) :
  ∃ v w' π' av', (Instr.alloc ty true (.tuple #[])).run P w = .ok v w' /\ VRel π' w' av' ex t v /\ Res P B (wrK B av W) π H w av ex H' w' π' av' := by
 simp only [dk, Option.some.injEq, Prod.mk.injEq] at hd
 obtain ⟨rfl, rfl⟩ := hd
 obtain ⟨v, hr, hc, ho, _⟩ := run_zero P w hz
 refine ⟨.pointer (some ⟨w.heap.size, 0, none⟩), _, _, _, ?_, ?_, new_cells W hH hf ty ag (chkVs_sound hc) ho (fun j u h => VsRel.self_get rfl j u h) ?_⟩
 ·simp [Instr.alloc, hr, newVar, newRow]
 ·exact VRel.ref H.length 0 w.heap.size 0 (PMap.add_self _ _ _)
 ·have := (chkVs_sound (π := π) (w := w) (av := av) (ex := ex) hc).length; simp at this; omega

theorem box_sound (W : Bool) (hH : HRel P B π H w av ex) (hf : π H.length = none) {ag : Bool} {x t : TV} {u : Value} {H' : Heap} {ty : TypeId} (hd : dk (.box ag) [x] H = some (t, H')) (hx : VRel π w av ex x u) :
  ∃ v w' π' av', (Instr.box ty u).run P w = .ok v w' /\ VRel π' w' av' ex t v /\ Res P B (wrK B av W) π H w av ex H' w' π' av' := by
 simp only [dk] at hd
 split at hd <;> try (cases hd; done)
 rename_i hc
 obtain ⟨ho, _⟩ := hc
 injection hd with hd
 injection hd with h1 h2
 subst h1; subst h2
 have hne : x ≠ .undef := by rintro rfl; simp [TV.cells, TV.one] at ho
 have hxc := hx.cells hne
 refine ⟨.pointer (some ⟨w.heap.size, 0, none⟩), _, _, _, ?_, VRel.ref H.length 0 w.heap.size 0 (PMap.add_self _ _ _), new_cells W hH hf ty ag hxc ho (fun j u h => VsRel.self_get rfl j u h) ?_⟩
 ·simp [Instr.box, newVar, newRow]
 ·have := hxc.length; simp at this; omega

theorem heap_alloc_cell (w : World) (cc : Array Value) (el : TypeId) (j : Nat) (u : Value) (h : cc[j]? = some u) : (w.alloc (.cells cc el)).cell? ⟨w.heap.size, j, none⟩ = some u := by
 simp [h]

theorem boxV_sound (W : Bool) (hH : HRel P B π H w av ex) {x t : TV} {u : Value} {H' : Heap} {ty : TypeId} (hd : dk .boxV [x] H = some (t, H')) (hx : VRel π w av ex x u) :
  ∃ v w' π' av', (Instr.box ty u).run P w = .ok v w' /\ VRel π' w' av' ex t v /\ Res P B (wrK B av W) π H w av ex H' w' π' av' := by
 simp only [dk] at hd
 split at hd <;> try (cases hd; done)
 rename_i ho
 injection hd with hd
 injection hd with h1 h2
 subst h1; subst h2
 have hne : x ≠ .undef := by rintro rfl; simp [TV.cells, TV.one] at ho
 have hxc := hx.cells hne
 have e := Ev.alloc none' π w av (.cells u.cells ty)
 refine ⟨.pointer (some ⟨w.heap.size, 0, none⟩), w.alloc (.cells u.cells ty), π, av, ?_, ?_, ⟨Ev.alloc _ π w av _, hH.alloc _, fun _ x => absurd rfl x, fun _ x => x, Nat.le_refl _, fun _ _ _ x => absurd rfl x⟩⟩
 ·simp [Instr.box, newVar, newRow]
 ·refine .bp false x w.heap.size 0 u.cells.toList (hxc.mono e fun _ _ x => x.elim) ?_ ?_
  ·intro j u hj
   rw [Nat.zero_add]
   exact heap_alloc_cell w _ _ j u (by simpa using hj)
  ·intro _
   exact ⟨fun h => absurd (hH.avb _ h) (by omega), fun _ h => absurd (hH.exb _ h) (by omega)⟩

/-! ### composed values -/
theorem fill_sound {place : Nat -> Option (Nat × Nat)} : ∀ {z : List TV} {ps : List (Nat × Nat)} {vs : List TV} {l : List TV} {us : Array Value} {is : List Nat} {uvs : List Value}, fillP z ps vs = some l ->
  VsRel π w av ex z us.toList -> VsRel π w av ex vs uvs -> ps.length = is.length -> (∀ (j : Nat) i p, is[j]? = some i -> ps[j]? = some p -> place i = some p) ->
  ∃ us', Instr.fill place us (is.zip uvs) = some us' /\ VsRel π w av ex l us'.toList
 | z, [], vs, l, us, is, uvs, h, hz, hv, hl, _ => by
  cases vs with
  | nil =>
   simp only [fillP, Option.some.injEq] at h
   subst h
   cases hv
   exact ⟨us, by simp [Instr.fill], hz⟩
  | cons => simp [fillP] at h
 | z, (off, sz) :: ps, [], l, us, is, uvs, h, _, _, _, _ => by simp [fillP] at h
 | z, (off, sz) :: ps, v :: vs, l, us, is, uvs, h, hz, hv, hl, hp => by
  simp only [fillP] at h
  split at h <;> try (cases h; done)
  rename_i hc
  obtain ⟨h1, h0, h2⟩ := hc
  have hne : v ≠ .undef := by rintro rfl; simp [TV.cells, TV.one] at h0
  cases is with
  | nil => simp at hl
  | cons i is =>
  cases hv with | cons _ uv _ uvs hv hvs =>
  have hpl := hp 0 i (off, sz) rfl rfl
  have hvc := hv.cells hne
  have hlen := hvc.length
  have hzl := hz.length
  have hstep : VsRel π w av ex (put2 z off v.cells) (uv.cells.zipIdx.foldl (fun cs (c, j) => cs.setIfInBounds (off + j) c) us).toList := by
   have key : ∀ (l : List Value) (n : Nat) (a : Array Value), n + l.length <= a.size - off -> off <= a.size ->
     (l.zipIdx n |>.foldl (fun (cs : Array Value) (c, j) => cs.setIfInBounds (off + j) c) a).toList = a.toList.take (off + n) ++ l ++ a.toList.drop (off + n + l.length) := by
    intro l
    induction l with
    | nil => intro n a _ _; simp
    | cons x l ih =>
     intro n a hn ho
     simp only [List.zipIdx_cons, List.foldl_cons]
     rw [ih (n + 1) _ (by simp at hn ⊢; omega) (by simpa using ho)]
     have := list_seg_step a.toList (off + n) x l (by simp at hn ⊢; omega)
     simpa [Array.toList_setIfInBounds, Nat.add_assoc] using this
   have := key uv.cells.toList 0 us (by simp at hlen hzl; simp; omega) (by simp at hzl; omega)
   rw [<- Array.foldl_toList, Array.toList_zipIdx]
   simp only [Nat.add_zero] at this
   rw [this]
   exact hz.put2 hvc off
  obtain ⟨us', hf, hr⟩ := fill_sound (ps := ps) (is := is) h hstep hvs (by simpa using hl) (fun j i p a b => hp (j + 1) i p (by simpa using a) (by simpa using b))
  refine ⟨us', ?_, hr⟩
  simp only [List.zip_cons_cons, Instr.fill, hpl]
  have e1 : uv.cells.size = sz := by rw [<- h1, hlen]; simp
  have e2 : off + uv.cells.size <= us.size := by simp at hzl; omega
  rw [if_neg (by simp; omega)]
  exact hf

end Go.Dn

/-
 Operations, part 8: composed values, literals, make, append.
-/

namespace Go.Dn

variable {P : Program} {B : Nat} {π : PMap} {H : Heap} {w : World} {av ex : Nat -> Prop}

theorem run_places : ∀ (fs : List Field) (w' : World), fs.all (fun f => (szT P f.type).isSome) = true ->
  (fs.mapM fun f => (do pure (f.offset, <- sizeOf f.type) : Sem (Nat × Nat))).run P w' = .ok (fs.map fun f => (f.offset, (szT P f.type).getD 0)) w'
 | [], w', _ => by simp
 | f :: fs, w', h => by
  simp only [List.all_cons, Bool.and_eq_true] at h
  obtain ⟨n, hn⟩ := Option.isSome_iff_exists.1 h.1
  simp only [List.mapM_cons, Sem.run_bind, run_szOf P w' hn, Result.andThen_ok, Sem.run_pure, run_places fs w' h.2, List.map_cons, hn, Option.getD_some]

theorem build_sound {z : List TV} {ps : List (Nat × Nat)} {vs : List TV} {t : TV} {H' : Heap} {ty : TypeId} {parts : Array (Nat × Operand)} {ρ : Operand -> Value} (hd : dk (.build z ps) vs H = some (t, H')) (hz : zeroOk P ty z = true)
  (hv : VsRel π w av ex vs ((parts.toList.map (·.2)).map ρ))
  (hp : (match P.underlying ty with
   | some (.struct fs) => ps == parts.toList.map fun (i, _) => match fs[i]? with | some f => (f.offset, (szT P f.type).getD 0) | none => (0, 0)
   | some (.array _ e) => ps == parts.toList.map fun (i, _) => (i * (szT P e).getD 0, (szT P e).getD 0)
   | _ => false) = true)
  (hq : (match P.underlying ty with
   | some (.struct fs) => parts.toList.all (fun (i, _) => i < fs.size) && fs.toList.all fun f => (szT P f.type).isSome
   | some (.array _ e) => (szT P e).isSome
   | _ => false) = true) :
  H' = H /\ ∃ v, (Instr.build ty (parts.map fun (i, x) => (i, ρ x))).run P w = .ok v w /\ VRel π w av ex t v := by
 simp only [dk, Option.map_eq_some_iff, Prod.mk.injEq] at hd
 obtain ⟨l, hl, rfl, rfl⟩ := hd
 obtain ⟨zv, hzr, hzc, _, _⟩ := run_zero P w hz
 have hzip : (parts.map fun (i, x) => (i, ρ x)).toList = (parts.toList.map (·.1)).zip ((parts.toList.map (·.2)).map ρ) := by
  rw [Array.toList_map]
  induction parts.toList with
  | nil => rfl
  | cons a l ih => simp [ih]
 refine ⟨rfl, ?_⟩
 split at hp
 ·rename_i fs hu
  rw [hu] at hq
  simp only [Bool.and_eq_true, beq_iff_eq] at hp hq
  obtain ⟨us', hf, hr⟩ := fill_sound (place := ((fs.map fun f => (f.offset, (szT P f.type).getD 0))[·]?)) (is := parts.toList.map (·.1)) hl (chkVs_sound hzc) hv (by simp [hp]) (by
   intro j i p hi hpj
   rw [hp] at hpj
   simp only [List.getElem?_map, Option.map_eq_some_iff] at hi hpj
   obtain ⟨a, ha, rfl⟩ := hi
   obtain ⟨a', ha', rfl⟩ := hpj
   rw [ha] at ha'
   injection ha' with ha'
   subst ha'
   have hlt := List.all_eq_true.1 hq.1 a (List.mem_of_getElem? ha)
   simp only [decide_eq_true_eq] at hlt
   simp [Array.getElem?_eq_getElem hlt])
  refine ⟨.agg us', ?_, .agg _ _ hr⟩
  have hpl : (fs.mapM fun f => (do pure (f.offset, <- sizeOf f.type) : Sem (Nat × Nat))).run P w = .ok (fs.map fun f => (f.offset, (szT P f.type).getD 0)) w := by
   have := run_places (P := P) fs.toList w hq.2
   rw [Array.mapM_eq_mapM_toList, Sem.run_map, this]
   simp only [Result.andThen_ok]
   congr 1
   apply Array.ext'
   simp
  unfold Instr.build
  simp only [Sem.run_bind, hzr, run_underlying hu, Result.andThen_ok]
  rw [hpl]
  simp only [Result.andThen_ok]
  rw [hzip, hf]
  rfl
 ·rename_i n e hu
  rw [hu] at hq
  simp only [beq_iff_eq] at hp
  obtain ⟨sz, hsz⟩ := Option.isSome_iff_exists.1 hq
  rw [hsz] at hp
  simp only [Option.getD_some] at hp
  obtain ⟨us', hf, hr⟩ := fill_sound (place := fun i => some (i * sz, sz)) (is := parts.toList.map (·.1)) hl (chkVs_sound hzc) hv (by simp [hp]) (by
   intro j i p hi hpj
   rw [hp] at hpj
   simp only [List.getElem?_map, Option.map_eq_some_iff] at hi hpj
   obtain ⟨a, ha, rfl⟩ := hi
   obtain ⟨a', ha', rfl⟩ := hpj
   rw [ha] at ha'
   injection ha' with ha'
   subst ha'
   rfl)
  refine ⟨.agg us', ?_, .agg _ _ hr⟩
  unfold Instr.build
  simp only [Sem.run_bind, hzr, run_underlying hu, run_szOf P w hsz, Result.andThen_ok]
  rw [hzip, hf]
  rfl
 ·cases hp

/-! ### rows of zeros -/
theorem repl_eq (z : List TV) (n : Nat) : repl z n = (List.replicate n z).flatten := by
 unfold repl
 split
 ·rename_i x
  induction n with
  | zero => rfl
  | succ n ih => rw [List.replicate_succ, List.replicate_succ, List.flatten_cons, <- ih]; rfl
 ·rfl

theorem flat_get (zc : List Value) (hpos : 0 < zc.length) : ∀ (n j : Nat), j < n * zc.length -> (List.replicate n zc).flatten[j]? = zc[j % zc.length]?
 | 0, j, hj => by simp at hj
 | n + 1, j, hj => by
  rw [List.replicate_succ, List.flatten_cons, List.getElem?_append]
  split
  ·rename_i hlt
   rw [Nat.mod_eq_of_lt hlt]
  ·rename_i hge
   rw [flat_get zc hpos n (j - zc.length) (by rw [Nat.succ_mul] at hj; omega), <- Nat.mod_eq_sub_mod (by omega)]

theorem zeros_list (zc : Array Value) (n : Nat) : ((Array.range (n * zc.size)).map (zc[· % zc.size]!)).toList = (List.replicate n zc.toList).flatten := by
 apply List.ext_getElem?
 intro j
 have hl : ((List.replicate n zc.toList).flatten).length = n * zc.size := by simp
 by_cases hj : j < n * zc.size
 ·have hpos : 0 < zc.size := by
   rcases Nat.eq_zero_or_pos zc.size with h0 | h0
   ·rw [h0] at hj; simp at hj
   ·exact h0
  have hmod := Nat.mod_lt j hpos
  rw [flat_get zc.toList (by simpa using hpos) n j (by simpa using hj)]
  have h1 : ((Array.range (n * zc.size)).map (zc[· % zc.size]!)).toList[j]? = some (zc[j % zc.size]!) := by
   rw [Array.getElem?_toList, Array.getElem?_map, Array.getElem?_eq_getElem (by simpa using hj)]
   simp
  rw [h1]
  rw [Array.length_toList, Array.getElem?_toList, Array.getElem?_eq_getElem hmod, getElem!_pos zc _ hmod]
 ·rw [List.getElem?_eq_none (by simp; omega), List.getElem?_eq_none (by rw [hl]; omega)]

theorem zeros_sound {z : List TV} {zc : Array Value} (h : VsRel π w av ex z zc.toList) (n : Nat) : VsRel π w av ex (repl z n) ((Array.range (n * zc.size)).map (zc[· % zc.size]!)).toList := by
 rw [repl_eq, zeros_list]
 induction n with
 | zero => simpa using VsRel.nil
 | succ n ih => simp only [List.replicate_succ, List.flatten_cons]; exact h.append ih

theorem repl_one {z : List TV} (h : z.all TV.one = true) (n : Nat) : (repl z n).all TV.one = true := by
 rw [repl_eq]
 induction n with
 | zero => rfl
 | succ n ih => simp only [List.replicate_succ, List.flatten_cons, List.all_append, h, ih, Bool.and_self]

theorem repl_length (z : List TV) (n : Nat) : (repl z n).length = n * z.length := by
 rw [repl_eq]; simp

theorem fillP_length : ∀ {z : List TV} {ps : List (Nat × Nat)} {vs : List TV} {l : List TV}, fillP z ps vs = some l -> l.length = z.length
 | z, [], [], l, h => by simp [fillP] at h; subst h; rfl
 | z, [], _ :: _, l, h => by simp [fillP] at h
 | z, (a, b) :: ps, [], l, h => by simp [fillP] at h
 | z, (a, b) :: ps, v :: vs, l, h => by
  simp only [fillP] at h
  split at h <;> try (cases h; done)
  rename_i hc
  rw [fillP_length h]
  simp [put2]
  omega

theorem elems_spec {sz n : Nat} {ag : Bool} : ∀ {l : List TV}, l.length = n * sz -> (ag = true \/ sz = 1) -> l.all TV.one = true -> (elems sz ag n l).flatMap TV.cells = l /\ (∀ e, e ∈ elems sz ag n l -> e.cells.length = sz) /\ (elems sz ag n l).length = n := by
 intro l hl ha ho
 unfold elems
 cases ag with
 | true =>
  simp only [if_true]
  clear ha ho
  induction n generalizing l with
  | zero => simp at hl; subst hl; simp [chunk]
  | succ n ih =>
   rw [Nat.succ_mul] at hl
   obtain ⟨h1, h2, h3⟩ := ih (l := l.drop sz) (by simp; omega)
   refine ⟨by simp [chunk, h1, TV.cells], ?_, by simp [chunk, h3]⟩
   intro e he
   simp only [chunk, List.mem_cons] at he
   rcases he with rfl | he
   ·simp [TV.cells]; omega
   ·exact h2 e he
 | false =>
  have hs : sz = 1 := by simpa using ha
  subst hs
  simp only [Bool.false_eq_true, if_false]
  have hc : ∀ e, e ∈ l -> e.cells = [e] := fun e he => by
   have := List.all_eq_true.1 ho e he
   cases e <;> first | rfl | simp [TV.one] at this
  refine ⟨?_, fun e he => by simp [hc e he], by omega⟩
  clear hl ho
  induction l with
  | nil => rfl
  | cons a l ih => simp [hc a (by simp), ih fun e he => hc e (by simp [he])]

theorem bsl_sound (W : Bool) (hH : HRel P B π H w av ex) {byV : Bool} {z : List TV} {ag : Bool} {len : Nat} {ix : List Nat} {vs : List TV} {t : TV} {H' : Heap} (hf : H.length < H'.length -> π H.length = none) {ty e : TypeId} {parts : Array (Nat × Operand)} {ρ : Operand -> Value}
  (hd : dk (.bsl byV z ag len ix) vs H = some (t, H')) (hv : VsRel π w av ex vs ((parts.toList.map (·.2)).map ρ)) (hix : ix = parts.toList.map (·.1)) (hu : P.underlying ty = some (.slice e)) (hz : zeroOk P e z = true)
  (ht : tyOk P e z.length ag = true) (hb : len * z.length <= 16777216) :
  ∃ v w' π' av', (Instr.buildSlice ty len (parts.map fun (i, x) => (i, ρ x))).run P w = .ok v w' /\ VRel π' w' av' ex t v /\ Res P B (wrK B av W) π H w av ex H' w' π' av' := by
 simp only [dk] at hd
 split at hd <;> try (cases hd; done)
 rename_i hag
 simp only [Option.bind_eq_some_iff] at hd
 obtain ⟨l, hl, hd⟩ := hd
 split at hd <;> try (cases hd; done)
 rename_i hone
 obtain ⟨zv, hzr, hzc, hzo, _⟩ := run_zero P w hz
 have hzv := chkVs_sound (π := π) (w := w) (av := av) (ex := ex) hzc
 have hzl := hzv.length
 simp at hzl
 have hzip : (parts.map fun (i, x) => (i, ρ x)).toList = (parts.toList.map (·.1)).zip ((parts.toList.map (·.2)).map ρ) := by
  rw [Array.toList_map]
  induction parts.toList with
  | nil => rfl
  | cons a l ih => simp [ih]
 have hz2 := zeros_sound hzv len
 obtain ⟨us', hfl, hr⟩ := fill_sound (place := fun i => some (i * z.length, z.length)) (is := parts.toList.map (·.1)) hl hz2 hv (by simp [hix]) (by
  intro j i p hi hpj
  rw [hix] at hpj
  simp only [List.getElem?_map, Option.map_eq_some_iff] at hi hpj
  obtain ⟨a, ha, rfl⟩ := hi
  obtain ⟨a', ⟨a'', ha'', rfl⟩, rfl⟩ := hpj
  rw [ha] at ha''
  injection ha'' with ha''
  subst ha''
  rfl)
 have hll : l.length = len * z.length := by rw [fillP_length hl, repl_length]
 have hrun : (Instr.buildSlice ty len (parts.map fun (i, x) => (i, ρ x))).run P w = .ok (.slice (some ⟨w.heap.size, 0, none⟩) len len) (w.alloc (.cells us' e)) := by
  unfold Instr.buildSlice
  simp only [Sem.run_bind, run_underlying hu, run_szOf P w (tyOk.sz ht), Result.andThen_ok]
  rw [if_neg (by omega)]
  by_cases h0 : len * z.length = 0
  ·rw [if_pos h0]
   simp only [Sem.run_bind, Sem.run_pure, Result.andThen_ok]
   have e0 : ((Array.range (len * z.length)).map ((#[] : Array Value)[· % (#[] : Array Value).size]!)) = ((Array.range (len * zv.cells.size)).map (zv.cells[· % zv.cells.size]!)) := by
    rw [<- hzl, h0]; simp
   rw [e0, hzip, hfl]
   simp [newRow]
  ·rw [if_neg h0]
   simp only [Sem.run_bind, hzr, Sem.run_pure, Result.andThen_ok]
   have e0 : ((Array.range (len * z.length)).map (zv.cells[· % zv.cells.size]!)) = ((Array.range (len * zv.cells.size)).map (zv.cells[· % zv.cells.size]!)) := by rw [<- hzl]
   rw [e0, hzip, hfl]
   simp [newRow]
 have hlen2 := hr.length
 simp at hlen2
 cases byV with
 | true =>
  simp only [if_true, Option.some.injEq, Prod.mk.injEq] at hd
  obtain ⟨rfl, rfl⟩ := hd
  have ev := Ev.alloc none' π w av (.cells us' e)
  obtain ⟨h1, h2, h3⟩ := elems_spec hll hag hone
  refine ⟨_, _, π, av, hrun, ?_, ⟨Ev.alloc _ π w av _, hH.alloc _, fun _ x => absurd rfl x, fun _ x => x, Nat.le_refl _, fun _ _ _ x => absurd rfl x⟩⟩
  have := VRel.bs (π := π) (w := w.alloc (.cells us' e)) (av := av) (ex := ex) false z.length (elems z.length ag len l) w.heap.size 0 len us'.toList (by rw [h1]; exact hr.mono ev fun _ _ x => x.elim) h2
   (fun j u hj => by rw [Nat.zero_add]; exact heap_alloc_cell w _ _ j u (by simpa using hj)) (fun _ => ⟨fun h => absurd (hH.avb _ h) (by omega), fun _ h => absurd (hH.exb _ h) (by omega)⟩) (by omega)
  rwa [h3] at this
 | false =>
  simp only [Bool.false_eq_true, if_false, Option.some.injEq, Prod.mk.injEq] at hd
  obtain ⟨rfl, rfl⟩ := hd
  have hf := hf (by simp)
  refine ⟨_, _, _, _, hrun, ?_, new_cells W hH hf e false hr hone (fun j u h => VsRel.self_get rfl j u h) (by omega)⟩
  exact VRel.sl H.length 0 z.length ag len (some len) w.heap.size 0 len us' e (0, 0) (PMap.add_self _ _ _) (heap_push_eq w _) (Nat.le_refl _) (fun k hk => by simpa using hk.symm) (by omega)

theorem mksl_sound (W : Bool) (hH : HRel P B π H w av ex) (hf : π H.length = none) {z : List TV} {ag : Bool} {bytes : Nat} {l c t : TV} {ul uc : Value} {H' : Heap} {ty e : TypeId} (hd : dk (.mksl z ag bytes) [l, c] H = some (t, H'))
  (hl : VRel π w av ex l ul) (hc : VRel π w av ex c uc) (hu : P.underlying ty = some (.slice e)) (hz : zeroOk P e z = true) (ht : tyOk P e z.length ag = true) (hby : (P.info? e).map (·.bytes) = some bytes) :
  ∃ v w' π' av', (Instr.makeSlice ty ul uc).run P w = .ok v w' /\ VRel π' w' av' ex t v /\ Res P B (wrK B av W) π H w av ex H' w' π' av' := by
 simp only [dk, Option.bind_eq_some_iff] at hd
 obtain ⟨n, hn, m, hm, hd⟩ := hd
 obtain ⟨k1, rfl⟩ := bound_sound hn hl
 obtain ⟨k2, rfl⟩ := bound_sound hm hc
 split at hd <;> try (cases hd; done)
 rename_i hcnd
 obtain ⟨h1, h2, h3⟩ := hcnd
 injection hd with hd
 injection hd with hd1 hd2
 subst hd1; subst hd2
 obtain ⟨zv, hzr, hzc, hzo, _⟩ := run_zero P w hz
 have hzv := chkVs_sound (π := π) (w := w) (av := av) (ex := ex) hzc
 have hzl := hzv.length
 simp at hzl
 have hz2 := zeros_sound hzv m
 have hlen := hz2.length
 rw [repl_length] at hlen
 simp at hlen
 cases hq : P.info? e with
 | none => simp [hq] at hby
 | some i =>
  have hib : i.bytes = bytes := by simpa [hq] using hby
  have hwr : ∀ a : Nat, a <= 140737488355328 -> IntKind.i64.wrap (a : Int) = a := fun a ha => IntWalk.i64_in _ (by omega)
  have hrun : (Instr.makeSlice ty (.int k1 (n : Int)) (.int k2 (m : Int))).run P w = .ok (.slice (some ⟨w.heap.size, 0, none⟩) n m) (w.alloc (.cells ((Array.range (m * zv.cells.size)).map (zv.cells[· % zv.cells.size]!)) e)) := by
   unfold Instr.makeSlice
   have hb2 : (bytes : Int) * (m : Int) <= 140737488355328 := by rw [<- Int.natCast_mul]; omega
   have h48 : (2 : Int) ^ 48 = 281474976710656 := by decide
   simp only [Sem.run_bind, run_underlying hu, asInt, asIntOf_int, Sem.run_pure, Result.andThen_ok, typeInfo, run_program, hq, hib, hwr n (by omega), hwr m h3]
   simp only [h48]
   rw [if_neg (by simp; omega)]
   simp only [Sem.run_bind, Sem.run_pure, Result.andThen_ok, run_askRoom, run_szOf P w (tyOk.sz ht), Int.toNat_natCast]
   by_cases h0 : m * z.length = 0
   ·rw [if_pos h0]
    have e0 : ((Array.range (m * z.length)).map ((#[] : Array Value)[· % (#[] : Array Value).size]!)) = ((Array.range (m * zv.cells.size)).map (zv.cells[· % zv.cells.size]!)) := by rw [<- hzl, h0]; simp
    simp only [Sem.run_bind, Sem.run_pure, Result.andThen_ok]
    rw [e0]
    simp [newRow]
   ·rw [if_neg h0]
    have e0 : ((Array.range (m * z.length)).map (zv.cells[· % zv.cells.size]!)) = ((Array.range (m * zv.cells.size)).map (zv.cells[· % zv.cells.size]!)) := by rw [<- hzl]
    simp only [Sem.run_bind, hzr, Sem.run_pure, Result.andThen_ok]
    rw [e0]
    simp [newRow]
  refine ⟨_, _, _, _, hrun, ?_, new_cells W hH hf e false hz2 (repl_one hzo m) (fun j u h => VsRel.self_get rfl j u h) (by rw [repl_length, hlen]; simp)⟩
  exact VRel.sl H.length 0 z.length ag n (some m) w.heap.size 0 m _ e (0, 0) (PMap.add_self _ _ _) (heap_push_eq w _) h1 (fun k hk => by simpa using hk.symm) (by simp; omega)

end Go.Dn

