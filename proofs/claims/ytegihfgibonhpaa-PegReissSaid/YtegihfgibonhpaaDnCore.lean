/-
  A deterministic evaluator of loaded code over abstract values: definitions alone.
-/
import GoSem.Step
import Derived.Calls
set_option linter.unusedVariables false
namespace Go.Dn

/-- Abstract values. 'ref', 'sl', 'mp', 'yl' name objects of the running call's own heap; 'bp', 'bs' hold what they lead to (memory that nobody writes any more while they live). -/
inductive TV where
  | undef
  | b (x : Bool)
  | i (k : IntKind) (n : Int)
  | s (x : ByteArray)
  | nilp | nilsl | nilmap | nilfn | nilif
  | agg (l : List TV)
  | tup (l : List TV)
  | fn (f : Nat) (fs cs : List TV)
  | yl (id : Nat)
  | ref (id off : Nat)
  | sl (id off sz : Nat) (ag : Bool) (len : Nat) (cap : Option Nat)
  | esl
  | mp (id : Nat)
  | bp (bor : Bool) (v : TV)
  | bs (bor : Bool) (sz : Nat) (es : List TV)
  deriving Inhabited

def TV.cells : TV → List TV
  | .agg l => l
  | v => [v]

/-- the value of one cell -/
def TV.one : TV → Bool
  | .undef | .agg _ | .tup _ => false
  | _ => true

def TV.isAgg : TV → Bool
  | .agg _ => true
  | _ => false

def mapO {α β : Type} (f : α → Option β) : List α → Option (List β)
  | [] => some []
  | x :: xs => (f x).bind fun y => (mapO f xs).bind fun ys => some (y :: ys)

/-- at least so many, looked at no further -/
def lenGe {α : Type} : List α → Nat → Bool
  | _, 0 => true
  | [], _ + 1 => false
  | _ :: l, n + 1 => lenGe l n

theorem lenGe_iff {α : Type} : ∀ (l : List α) (n : Nat), lenGe l n = true ↔ n ≤ l.length
  | l, 0 => by cases l <;> simp [lenGe]
  | [], n + 1 => by simp [lenGe]
  | _ :: l, n + 1 => by simp [lenGe, lenGe_iff l n]

instance (priority := high) lenDec {α : Type} (l : List α) (n : Nat) : Decidable (n ≤ l.length) := decidable_of_iff _ (lenGe_iff l n)

def put2 {α : Type} (l : List α) (off : Nat) (c : List α) : List α := l.take off ++ c ++ l.drop (off + c.length)

def chunk (sz : Nat) : Nat → List TV → List TV
  | 0, _ => []
  | n + 1, l => .agg (l.take sz) :: chunk sz n (l.drop sz)

/-- so many cells as elements -/
def elems (sz : Nat) (ag : Bool) (n : Nat) (l : List TV) : List TV := if ag then chunk sz n l else l

abbrev Env := List (Nat × TV)
def get : Env → Nat → Option TV
  | [], _ => none
  | (k, v) :: r, s => if k = s then some v else get r s
def keepE (ks : List Nat) (e : Env) : Env := ks.filterMap fun s => (get e s).map fun v => (s, v)
def putE (e : Env) (d : Option Nat) (v : TV) : Env := match d with | some s => (s, v) :: e | none => e

inductive Ex where
  | normal | exit (id : Nat) | ret
  deriving DecidableEq, Inhabited

inductive Opnd where
  | t (s : Nat)
  | c (v : TV)
  | g (n : Nat)
  deriving Inhabited

/-- how a call is made: on the caller's own heap, or as a function of values (a mark an argument: its flags are kept) -/
inductive CMode where
  | sh
  | pu (keep : List Bool)
  deriving Inhabited

/-- a key's type: whole numbers, or so many cells (whole numbers: true; truth values: false) -/
inductive KT where
  | int
  | flat (ks : List Bool)
  deriving Inhabited

inductive DK where
  | mv
  | pick
  | binI (op : BinOp)
  | eqB (neg : Bool)
  | eqN (kd : Nat) (neg : Bool)
  | eqA (neg : Bool) (ks : List Bool)
  | eqS (neg : Bool)
  | notB
  | negI (k : IntKind)
  | xorI
  | conv (k : IntKind)
  | alloc (z : List TV) (ag : Bool)
  | box (ag : Bool)
  | boxV
  | build (z : List TV) (ps : List (Nat × Nat))
  | bsl (byV : Bool) (z : List TV) (ag : Bool) (len : Nat) (ix : List Nat)
  | ld (sz : Nat) (ag : Bool)
  | st (sz : Nat)
  | nilck
  | mkfn (f : Nat) (nf : Nat)
  | mkmap
  | mksl (z : List TV) (ag : Bool) (bytes : Nat)
  | slc (lo hi mx : Bool) (sz : Nat) (ag : Bool)
  | slcA (lo hi mx : Bool) (n sz : Nat) (ag : Bool)
  | fadr (off sz : Nat) (ag : Bool)
  | fld (off sz : Nat) (ag : Bool)
  | ixS (sz : Nat) (ag : Bool)
  | ixA (n sz : Nat) (ag : Bool)
  | idx (n sz : Nat) (ag : Bool)
  | ixStr
  | lkp (kt : KT) (z : TV) (ok : Bool)
  | mset (kt : KT)
  | ext (n : Nat)
  | call (m : CMode)
  | app (sz : Nat) (ag : Bool) (bytes : Nat)
  | len (kd : Nat)
  | mxI
  | mnI
  | never
  deriving Inhabited

structure DOper where
  d : Option Nat
  k : DK
  a : List Opnd
  g : Option (Nat × Bool)
  deriving Inhabited

inductive DC where
  | skip
  | reg (ops : List DOper) (keep : List Nat)
  | seq (x y : DC)
  | cond (c : Opnd) (x y : DC)
  | block (id : Nat) (x : DC)
  | scope (x : DC)
  | loop (keep : List Nat) (x : DC)
  | exit (id : Nat)
  | ret
  | rfunc (f : Opnd) (params : List Nat) (assign body : DC) (keep : List Nat)
  | bad
  deriving Inhabited

inductive RV where
  | t (s : Nat)
  | c (s : Nat) (sz : Nat) (ag : Bool)
  deriving Inhabited

structure DFun where
  np : Nat
  nt : Nat
  body : DC
  res : List RV
  deriving Inhabited

structure ALoop where
  env : Env
  params : List Nat
  assign : DC
  body : DC
  st : LoopState
  pend : Option Ex
  deriving Inhabited

inductive AObj where
  | dead
  | cells (c : List TV) (ag : Bool)
  | map (es : List (TV × TV × Nat)) (clock : Nat)
  | loop (L : ALoop)
  deriving Inhabited

abbrev Heap := List AObj

structure Out where
  ex : Ex
  env : Env
  H : Heap
  deriving Inhabited

structure Pg where
  F : Nat → Option DFun
  G : Nat → Option TV
  /-- calls as functions of values whose answers are known -/
  S : Nat → List TV → Option TV := fun _ _ => none

abbrev Rec := DC → Env → Heap → Option Out

/-! ### snapshots -/

/-- what a value leads to, by value. 'm': 'some true' marks all as borrowed, 'none' keeps what stands (and takes nothing out of the heap), 'some false' is for results: it takes no borrowed part. -/
inductive SM where
  | borrow | keep | fin
  deriving DecidableEq, Inhabited

def SM.flag : SM → Bool → Option Bool
  | .borrow, _ => some true
  | .keep, b => some b
  | .fin, b => if b then none else some false

def snap (m : SM) (H : Heap) : Nat → TV → Option TV
  | 0, _ => none
  | n + 1, v =>
    match v with
    | .agg l => (mapO (snap m H n) l).map .agg
    | .tup l => (mapO (snap m H n) l).map .tup
    | .fn f fs cs => (mapO (snap m H n) fs).bind fun fs' => (mapO (snap m H n) cs).map fun cs' => .fn f fs' cs'
    | .bp bo x => (m.flag bo).bind fun bo' => (snap m H n x).map fun x' => .bp bo' x'
    | .bs bo sz es => (m.flag bo).bind fun bo' => (mapO (snap m H n) es).map fun es' => .bs bo' sz es'
    | .ref id off =>
      if m = .keep ∨ off ≠ 0 then none else
      match H[id]? with
      | some (.cells c ag) =>
        if ag then (mapO (snap m H n) c).map fun c' => .bp (m == .borrow) (.agg c')
        else match c with
          | [x] => (snap m H n x).map fun x' => .bp (m == .borrow) x'
          | _ => none
      | _ => none
    | .sl id off sz ag len _ =>
      if m = .keep then none else
      match H[id]? with
      | some (.cells c _) =>
        if off + len * sz ≤ c.length ∧ (ag = true ∨ sz = 1) then (mapO (snap m H n) (elems sz ag len ((c.drop off).take (len * sz)))).map fun es => .bs (m == .borrow) sz es
        else none
      | _ => none
    | .mp _ | .yl _ => none
    | .undef => none
    | x => some x

/-! ### operations -/

def wrapR (k : IntKind) (n : Int) : TV := .i k (k.wrap n)

def binI (op : BinOp) : TV → TV → Option TV
  | .i k x, .i k' y =>
    match op with
    | .shl => if y < 0 then none else some (wrapR k (x * 2 ^ (min y.toNat k.bits)))
    | .shr => if y < 0 then none else some (.i k (x.fdiv (2 ^ (min y.toNat k.bits))))
    | op =>
      if k = k' then
        match op with
        | .add => some (wrapR k (x + y))
        | .sub => some (wrapR k (x - y))
        | .mul => some (wrapR k (x * y))
        | .quo => if y = 0 then none else some (wrapR k (x.tdiv y))
        | .rem => if y = 0 then none else some (.i k (x.tmod y))
        | .and => some (wrapR k (BitVec.ofInt k.bits x &&& BitVec.ofInt k.bits y).toNat)
        | .or => some (wrapR k (BitVec.ofInt k.bits x ||| BitVec.ofInt k.bits y).toNat)
        | .xor => some (wrapR k (BitVec.ofInt k.bits x ^^^ BitVec.ofInt k.bits y).toNat)
        | .andNot => some (wrapR k (BitVec.ofInt k.bits x &&& ~~~ BitVec.ofInt k.bits y).toNat)
        | .eql => some (.b (x == y))
        | .neq => some (.b (x != y))
        | .lss => some (.b (x < y))
        | .leq => some (.b (x ≤ y))
        | .gtr => some (.b (x > y))
        | .geq => some (.b (x ≥ y))
        | _ => none
      else none
  | _, _ => none

/-- scalars compared: whole numbers (true), truth values (false) -/
def eqS : Bool → TV → TV → Option Bool
  | true, .i k x, .i k' y => if k = k' then some (x == y) else none
  | false, .b x, .b y => some (x == y)
  | _, _, _ => none

def eqL : List Bool → List TV → List TV → Option Bool
  | [], [], [] => some true
  | c :: ks, x :: xs, y :: ys => (eqS c x y).bind fun e => (eqL ks xs ys).map fun r => e && r
  | _, _, _ => none

/-- keys compared -/
def eqK : KT → TV → TV → Option Bool
  | .flat ks, .agg xs, .agg ys => eqL ks xs ys
  | .int, x, y => eqS true x y
  | _, _, _ => none

/-- nil, or not: 0 a slice, 1 a map, 2 a pointer, else a function -/
def isNil (kd : Nat) (x : TV) : Option Bool :=
  match kd with
  | 0 => match x with | .nilsl => some true | .sl .. | .esl | .bs .. => some false | _ => none
  | 1 => match x with | .nilmap => some true | .mp _ => some false | _ => none
  | 2 => match x with | .nilp => some true | .ref .. | .bp .. => some false | _ => none
  | _ => match x with | .nilfn => some true | .fn .. | .yl _ => some false | _ => none

def negb (neg : Bool) (x : Bool) : Bool := if neg then !x else x

/-- a place in a row of cells, read -/
def part (sz : Nat) (ag : Bool) (off : Nat) (l : List TV) : Option TV :=
  if ag then (if off + sz ≤ l.length then some (.agg ((l.drop off).take sz)) else none) else l[off]?.bind fun v => if v.isAgg then none else some v

def fillP : List TV → List (Nat × Nat) → List TV → Option (List TV)
  | z, [], [] => some z
  | z, (off, sz) :: ps, v :: vs => if v.cells.length = sz ∧ v.cells.all TV.one ∧ off + sz ≤ z.length then fillP (put2 z off v.cells) ps vs else none
  | _, _, _ => none

def repl (z : List TV) (n : Nat) : List TV :=
  match z with
  | [x] => List.replicate n x
  | z => (List.replicate n z).flatten

def bound (x : TV) : Option Nat :=
  match x with
  | .i _ n => if 0 ≤ n then some n.toNat else none
  | _ => none

/-- the bounds of a slice expression: low, high, the new capacity's end where one is given -/
def bounds3 (lo hi mx : Bool) (len : Nat) : List TV → Option (Nat × Nat × Option Nat)
  | vs =>
    let l := if lo then vs.head?.bind bound else some 0
    let vs := if lo then vs.drop 1 else vs
    let h := if hi then vs.head?.bind bound else some len
    let vs := if hi then vs.drop 1 else vs
    let m := if mx then (vs.head?.bind bound).map some else some none
    l.bind fun l => h.bind fun h => m.bind fun m => if l ≤ h then some (l, h, m) else none

def slcRun (lo hi mx : Bool) (sz : Nat) (ag : Bool) (x : TV) (vs : List TV) : Option TV :=
  match x with
  | .nilsl => (bounds3 lo hi mx 0 vs).bind fun (_, h, m) => if h = 0 ∧ m.getD 0 = 0 then some .nilsl else none
  | .esl => (bounds3 lo hi mx 0 vs).bind fun (_, h, m) => if h = 0 ∧ m.getD 0 = 0 then some .esl else none
  | .bs bo sz' es =>
    (bounds3 lo hi mx es.length vs).bind fun (l, h, m) =>
      if sz' = sz ∧ h ≤ es.length ∧ h ≤ m.getD h ∧ m.getD h ≤ es.length then
        if m = some l then some .esl else some (.bs bo sz' ((es.drop l).take (h - l)))
      else none
  | .sl id off sz' ag' len cap =>
    (bounds3 lo hi mx len vs).bind fun (l, h, m) =>
      if sz' = sz ∧ h ≤ m.getD h ∧ m.getD h ≤ cap.getD len then
        if m = some l then some .esl
        else some (.sl id (off + l * sz) sz ag (h - l) (match m with | some m => some (m - l) | none => cap.map (· - l)))
      else none
  | _ => none

def slcARun (lo hi mx : Bool) (n sz : Nat) (ag : Bool) (x : TV) (vs : List TV) (H : Heap) : Option TV :=
  (bounds3 lo hi mx n vs).bind fun (l, h, m) =>
    if h ≤ m.getD h ∧ m.getD h ≤ n then
      match x with
      | .ref id off =>
        match H[id]? with
        | some (.cells c _) => if off + n * sz ≤ c.length then (if m.getD n = l then some .esl else some (.sl id (off + l * sz) sz ag (h - l) (some (m.getD n - l)))) else none
        | _ => none
      | .bp bo (.agg c) => if sz = 1 ∧ ag = false ∧ c.length = n ∧ c.all TV.one then (if m.getD n = l then some .esl else some (.bs bo 1 ((c.drop l).take (h - l)))) else none
      | _ => none
    else none

def lenOf : TV → Heap → Option Nat
  | .nilsl, _ | .esl, _ | .nilmap, _ => some 0
  | .sl _ _ _ _ n _, _ => some n
  | .bs _ _ es, _ => some es.length
  | .s x, _ => some x.size
  | .mp id, H => match H[id]? with | some (.map es _) => some es.length | _ => none
  | _, _ => none

/-- the length of a slice (0), a string (1), a map -/
def lenK (kd : Nat) (x : TV) (H : Heap) : Option Nat :=
  match kd, x with
  | 0, .nilsl | 0, .esl => some 0
  | 0, .sl _ _ _ _ n _ => some n
  | 0, .bs _ _ es => some es.length
  | 1, .s x => some x.size
  | 2, .nilmap => some 0
  | 2, .mp id => match H[id]? with | some (.map es _) => some es.length | _ => none
  | _, _ => none

/-- the cells of a slice's elements -/
def flatOf (sz : Nat) : TV → Heap → Option (List TV)
  | .nilsl, _ | .esl, _ => some []
  | .bs _ sz' es, _ => if sz' = sz then some (es.flatMap TV.cells) else none
  | .sl id off sz' _ len _, H =>
    match H[id]? with
    | some (.cells c _) => if sz' = sz ∧ off + len * sz ≤ c.length then some ((c.drop off).take (len * sz)) else none
    | _ => none
  | _, _ => none

def appRun (sz : Nat) (ag : Bool) (bytes : Nat) (s x : TV) (H : Heap) : Option (TV × Heap) :=
  (lenOf x H).bind fun n => (flatOf sz x H).bind fun xs => (lenOf s H).bind fun l =>
    if (l + n) * bytes ≤ 140737488355328 ∧ xs.all TV.one ∧ xs.length = n * sz then
      match s with
      | .nilsl | .esl => if n = 0 then some (s, H) else some (.sl H.length 0 sz ag n none, H ++ [.cells xs false])
      | .sl id off sz' ag' len cap =>
        if n = 0 then some (s, H) else
        if sz' = sz then
          match H[id]? with
          | some (.cells c ag0) =>
            if off + len * sz ≤ c.length then
              match cap with
              | some k =>
                if len + n ≤ k then
                  if off + (len + n) * sz ≤ c.length then some (.sl id off sz ag (len + n) cap, H.set id (.cells (put2 c (off + len * sz) xs) ag0)) else none
                else some (.sl H.length 0 sz ag (len + n) none, H ++ [.cells ((c.drop off).take (len * sz) ++ xs) false])
              | none => some (.sl H.length 0 sz ag (len + n) none, H.set id .dead ++ [.cells ((c.drop off).take (len * sz) ++ xs) false])
            else none
          | _ => none
        else none
      | _ => none
    else none

def findK (kt : KT) (k : TV) : List (TV × TV × Nat) → Option (Option (Nat × TV))
  | [] => some none
  | (k', v, _) :: r => (eqK kt k k').bind fun e => if e then some (some (0, v)) else (findK kt k r).map fun o => o.map fun (i, v) => (i + 1, v)

def foldI (f : Int → Int → Int) : TV → List TV → Option TV
  | .i k x, [] => some (.i k x)
  | .i k x, .i k' y :: r => if k = k' then foldI f (.i k (f x y)) r else none
  | _, _ => none

def dk : DK → List TV → Heap → Option (TV × Heap)
  | .mv, [x], H => some (x, H)
  | .pick, [.b c, a, b], H => some (if c then a else b, H)
  | .binI op, [x, y], H => (binI op x y).map fun v => (v, H)
  | .eqB neg, [.b x, .b y], H => some (.b (negb neg (x == y)), H)
  | .eqN kd neg, [x, y], H => (isNil kd x).bind fun p => (isNil kd y).bind fun q => if p || q then some (.b (negb neg (p && q)), H) else none
  | .eqA neg ks, [.agg x, .agg y], H => (eqL ks x y).map fun e => (.b (negb neg e), H)
  | .eqS neg, [.s x, .s y], H => some (.b (negb neg (x.toList == y.toList)), H)
  | .notB, [.b x], H => some (.b (!x), H)
  | .negI k, [.i k' x], H => if k = k' then some (wrapR k (0 - x), H) else none
  | .xorI, [.i k x], H => some (wrapR k (BitVec.ofInt k.bits (if k.signed then -1 else k.max) ^^^ BitVec.ofInt k.bits x).toNat, H)
  | .conv k, [.i _ n], H => some (wrapR k n, H)
  | .alloc z ag, [], H => some (.ref H.length 0, H ++ [.cells z ag])
  | .box ag, [x], H => if x.cells.all TV.one ∧ x.isAgg = ag then some (.ref H.length 0, H ++ [.cells x.cells ag]) else none
  | .boxV, [x], H => if x.cells.all TV.one then some (.bp false x, H) else none
  | .build z ps, vs, H => (fillP z ps vs).map fun l => (.agg l, H)
  | .bsl byV z ag len ix, vs, H =>
    if ag = true ∨ z.length = 1 then
      (fillP (repl z len) (ix.map fun i => (i * z.length, z.length)) vs).bind fun l =>
        if l.all TV.one then
          if byV then some (.bs false z.length (elems z.length ag len l), H) else some (.sl H.length 0 z.length ag len (some len), H ++ [.cells l false])
        else none
    else none
  | .ld sz ag, [.ref id off], H =>
    match H[id]? with
    | some (.cells c _) => (part sz ag off c).map fun v => (v, H)
    | _ => none
  | .ld sz ag, [.bp _ v], H =>
    match v with
    | .agg l => if ag ∧ l.length = sz then some (v, H) else none
    | v => if ag then none else some (v, H)
  | .st sz, [.ref id off, v], H =>
    match H[id]? with
    | some (.cells c ag) => if v.cells.length = sz ∧ v.cells.all TV.one ∧ off + sz ≤ c.length then some (.undef, H.set id (.cells (put2 c off v.cells) ag)) else none
    | _ => none
  | .nilck, [x], H => match x with | .ref .. | .bp .. | .fn .. | .yl _ => some (x, H) | _ => none
  | .mkfn f nf, vs, H => if nf ≤ vs.length then some (.fn f (vs.take nf) (vs.drop nf), H) else none
  | .mkmap, vs, H => match vs with | [] | [.i _ _] => some (.mp H.length, H ++ [.map [] 0]) | _ => none
  | .mksl z ag bytes, [l, c], H =>
    (bound l).bind fun l => (bound c).bind fun c =>
      if l ≤ c ∧ bytes * c ≤ 140737488355328 ∧ c ≤ 140737488355328 then some (.sl H.length 0 z.length ag l (some c), H ++ [.cells (repl z c) false]) else none
  | .slc lo hi mx sz ag, x :: vs, H => (slcRun lo hi mx sz ag x vs).map fun v => (v, H)
  | .slcA lo hi mx n sz ag, x :: vs, H => (slcARun lo hi mx n sz ag x vs H).map fun v => (v, H)
  | .fadr off sz ag, [x], H =>
    match x with
    | .ref id o => some (.ref id (o + off), H)
    | .bp bo (.agg l) => (part sz ag off l).map fun v => (.bp bo v, H)
    | _ => none
  | .fld off sz ag, [.agg l], H => (part sz ag off l).map fun v => (v, H)
  | .ixS sz ag, [x, i], H =>
    (bound i).bind fun i =>
      match x with
      | .sl id off sz' _ len _ => if i < len ∧ sz' = sz then some (.ref id (off + i * sz), H) else none
      | .bs bo sz' es => if sz' = sz then (es[i]?).map fun e => (.bp bo e, H) else none
      | _ => none
  | .ixA n sz ag, [x, i], H =>
    (bound i).bind fun i =>
      if i < n then
        match x with
        | .ref id off => some (.ref id (off + i * sz), H)
        | .bp bo (.agg l) => (part sz ag (i * sz) l).map fun v => (.bp bo v, H)
        | _ => none
      else none
  | .idx n sz ag, [.agg l, i], H => (bound i).bind fun i => if i < n then (part sz ag (i * sz) l).map fun v => (v, H) else none
  | .ixStr, [.s x, i], H => (bound i).bind fun i => (x[i]?).map fun b => (.i .u8 (b.toNat : Int), H)
  | .lkp kt z ok, [m, k], H =>
    let ans (v : TV) (o : Bool) : TV := if ok then .tup [v, .b o] else v
    match m with
    | .nilmap => (eqK kt k k).map fun _ => (ans z false, H)
    | .mp id =>
      match H[id]? with
      | some (.map es _) => (eqK kt k k).bind fun _ => (findK kt k es).map fun r => match r with | some (_, v) => (ans v true, H) | none => (ans z false, H)
      | _ => none
    | _ => none
  | .mset kt, [.mp id, k, v], H =>
    match H[id]? with
    | some (.map es ck) =>
      (eqK kt k k).bind fun _ => (findK kt k es).map fun r =>
        match r with
        | some (i, _) => (.undef, H.set id (.map (es.modify i fun e => (k, v, e.2.2)) ck))
        | none => (.undef, H.set id (.map (es ++ [(k, v, ck)]) (ck + 1)))
    | _ => none
  | .ext n, [.tup l], H => (l[n]?).map fun v => (v, H)
  | .app sz ag bytes, [s, x], H => appRun sz ag bytes s x H
  | .len kd, [x], H => (lenK kd x H).map fun (n : Nat) => (.i .i64 (n : Int), H)
  | .mxI, x :: xs, H => (foldI (fun x y => if y > x then y else x) x xs).map fun v => (v, H)
  | .mnI, x :: xs, H => (foldI (fun x y => if y < x then y else x) x xs).map fun v => (v, H)
  | _, _, _ => none

/-! ### code -/
section
variable (pg : Pg) (R : Rec)

def evalO (e : Env) : Opnd → Option TV
  | .t s => get e s
  | .c v => some v
  | .g n => (pg.G n).map (.bp false)

def resRun (e : Env) (H : Heap) : RV → Option TV
  | .t s => get e s
  | .c s sz ag => (get e s).bind fun p => (dk (.ld sz ag) [p] H).map (·.1)

def zipE : List TV → Nat → Env
  | [], _ => []
  | v :: vs, n => (n, v) :: zipE vs (n + 1)

def bodyRun (f : Nat) (args : List TV) (H : Heap) : Option (TV × Heap) :=
  (pg.F f).bind fun d =>
    if args.length = d.np then
      (R d.body (zipE args 0) H).bind fun o =>
        match o.ex with
        | .exit _ => none
        | _ => (mapO (resRun o.env o.H) d.res).map fun vs => ((match vs with | [v] => v | vs => .tup vs), o.H)
    else none

def yieldRun (id : Nat) (args : List TV) (H : Heap) : Option (TV × Heap) :=
  match H[id]? with
  | some (.loop L) =>
    if L.params.length = args.length then
      (R L.assign ((L.params.zip args).reverse ++ L.env) H).bind fun o1 =>
        match o1.ex, o1.H[id]? with
        | .normal, some (.loop L1) =>
          if L1.st = .ready then
            (R L.body o1.env (o1.H.set id (.loop { L1 with st := .busy }))).bind fun o2 =>
              match o2.H[id]? with
              | some (.loop L2) =>
                match o2.ex with
                | .normal => some (.b true, o2.H.set id (.loop { L2 with st := .ready, pend := none }))
                | e => some (.b false, o2.H.set id (.loop { L2 with st := .done, pend := some e }))
              | _ => none
          else none
        | _, _ => none
    else none
  | _ => none

def snapArgs (H : Heap) : List Bool → List TV → Option (List TV)
  | _, [] => some []
  | ks, v :: vs => (snap (if ks.headD false then .keep else .borrow) H 9 v).bind fun v' => (snapArgs H ks.tail vs).map fun vs' => v' :: vs'

def callRun (m : CMode) (vs : List TV) (H : Heap) : Option (TV × Heap) :=
  match vs with
  | .fn f fs cs :: args =>
    match m with
    | .sh => bodyRun pg R f (fs ++ args ++ cs) H
    | .pu ks => (snapArgs H ks (fs ++ args ++ cs)).bind fun as =>
      match pg.S f as with
      | some r => some (r, H)
      | none => (bodyRun pg R f as []).bind fun (r, H') => (snap .fin H' 9 r).map fun r' => (r', H)
  | .yl id :: args => match m with | .sh => yieldRun R id args H | _ => none
  | _ => none

def guardRun (e : Env) : Option (Nat × Bool) → Option Bool
  | none => some true
  | some (s, want) => match get e s with | some (.b x) => some (x == want) | _ => none

def operRun (o : DOper) (e : Env) (H : Heap) : Option (Env × Heap) :=
  (guardRun e o.g).bind fun go =>
    if go then
      (mapO (evalO pg e) o.a).bind fun vs =>
        (match o.k with
          | .call m => callRun pg R m vs H
          | k => dk k vs H).map fun (v, H') => (putE e o.d v, H')
    else some (putE e o.d .undef, H)

def opsRun : List DOper → Env → Heap → Option (Env × Heap)
  | [], e, H => some (e, H)
  | o :: os, e, H => (operRun pg R o e H).bind fun (e', H') => opsRun os e' H'

def runC : DC → Env → Heap → Option Out
  | .skip, e, H => some ⟨.normal, e, H⟩
  | .reg ops ks, e, H => (opsRun pg R ops e H).map fun (e', H') => ⟨.normal, keepE ks e', H'⟩
  | .seq x y, e, H => (runC x e H).bind fun o => if o.ex = .normal then runC y o.env o.H else some o
  | .cond c x y, e, H => match evalO pg e c with | some (.b t) => (if t then runC x e H else runC y e H) | _ => none
  | .block id x, e, H => (runC x e H).map fun o => if o.ex = .exit id then { o with ex := .normal } else o
  | .scope x, e, H => runC x e H
  | .loop ks x, e, H => (runC x (keepE ks e) H).bind fun o => if o.ex = .normal then R (.loop ks x) o.env o.H else some o
  | .exit id, e, H => some ⟨.exit id, e, H⟩
  | .ret, e, H => some ⟨.ret, e, H⟩
  | .rfunc f ps as bd ks, e, H =>
    (evalO pg e f).bind fun fv =>
      (callRun pg R .sh [fv, .yl H.length] (H ++ [.loop { env := keepE ks e, params := ps, assign := as, body := bd, st := .ready, pend := none }])).bind fun (_, H2) =>
        match H2[H.length]? with
        | some (.loop L) =>
          if L.st = .busy then none else
            some ⟨L.pend.getD .normal, keepE ks e, H2.set H.length (.loop { L with st := .exhausted })⟩
        | _ => none
  | .bad, _, _ => none
end

def denN (pg : Pg) : Nat → Rec
  | 0 => fun _ _ _ => none
  | n + 1 => fun c e H => runC pg (denN pg n) c e H

end Go.Dn
