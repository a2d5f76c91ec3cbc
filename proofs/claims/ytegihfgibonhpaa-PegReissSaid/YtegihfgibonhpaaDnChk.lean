/-
  Which evaluator's code stands for which loaded code: decided by a program.
-/
import Derived.Test.YtegihfgibonhpaaDnRel
set_option linter.unusedVariables false
namespace Go.Dn

mutual
def chkV : TV → Value → Bool
  | .b x, .bool y => x == y
  | .i k n, .int k' n' => decide (k = k') && n == n'
  | .s x, .string y => decide (x = y)
  | .nilp, .pointer a => a.isNone
  | .nilsl, .slice a l c => a.isNone && l == 0 && c == 0
  | .nilmap, .map r => r.isNone
  | .nilfn, .nilFunc => true
  | .nilif, .nilIface => true
  | .agg l, .agg cs => chkVs l cs.toList
  | .fn f fs cs, .func g a b => (match g with | .func f' => f == f' | _ => false) && fs.isEmpty && cs.isEmpty && a.isEmpty && b.isEmpty
  | _, _ => false
def chkVs : List TV → List Value → Bool
  | [], [] => true
  | t :: ts, v :: vs => chkV t v && chkVs ts vs
  | _, _ => false
end

def chkO : Opnd → Operand → Bool
  | .t s, .tmp s' => s == s'
  | .c v, .const x => chkV v x
  | .c (.fn f [] []), .func f' => f == f'
  | .g n, .global n' => n == n'
  | _, _ => false

def chkOs : List Opnd → List Operand → Bool
  | [], [] => true
  | a :: as, b :: bs => chkO a b && chkOs as bs
  | _, _ => false

def aggT (P : Program) (t : TypeId) : Bool :=
  match P.underlying t with
  | some (.struct _) | some (.array _ _) => true
  | _ => false

def szT (P : Program) (t : TypeId) : Option Nat := (P.info? t).map (·.size)

/-- the size and the make of a type, as the code says them -/
def tyOk (P : Program) (t : TypeId) (sz : Nat) (ag : Bool) : Bool :=
  (P.underlying t).isSome && szT P t == some sz && aggT P t == ag && (ag || sz == 1)

def zeroOk (P : Program) (t : TypeId) (z : List TV) : Bool :=
  match P.info? t with
  | some i => match i.zero with | some v => chkVs z v.cells.toList && z.all TV.one | none => false
  | none => false

/-- whole numbers (true), truth values (false) -/
def scalarT (P : Program) (t : TypeId) (c : Bool) : Bool :=
  match P.underlying t, c with
  | some (.int _), true | some .bool, false => szT P t == some 1
  | _, _ => false

/-- fields of one cell each, one behind the other, none blank -/
def flatFs (P : Program) : List Field → List Bool → Nat → Bool
  | [], [], _ => true
  | f :: fs, c :: ks, n => f.name != "_" && f.offset == n && scalarT P f.type c && flatFs P fs ks (n + 1)
  | _, _, _ => false

/-- a struct or an array of scalars -/
def flatT (P : Program) (t : TypeId) (ks : List Bool) : Bool :=
  match P.underlying t with
  | some (.struct fs) => flatFs P fs.toList ks 0 && !P.stoodInHeld t
  | some (.array len e) => scalarT P e true && ks == List.replicate len true
  | _ => false

def nilT (P : Program) (t : TypeId) (kd : Nat) : Bool :=
  match P.underlying t, kd with
  | some (.slice _), 0 | some (.map _ _), 1 | some (.pointer _), 2 | some (.func _ _ _), 3 => true
  | _, _ => false

/-- a key's type -/
def keyT (P : Program) (t : TypeId) : KT → Bool
  | .int => match P.underlying t with | some (.int _) => true | _ => false
  | .flat ks => flatT P t ks && (match P.underlying t with | some (.struct _) => true | _ => false)

def eqOp : Bool → BinOp
  | false => .eql
  | true => .neq

def lenT (P : Program) (ats : Array TypeId) (kd : Nat) : Bool :=
  match ats[0]?.bind P.underlying, kd with
  | some (.slice _), 0 | some .string, 1 | some (.map _ _), 2 => true
  | _, _ => false

def optO (f : Bool) (x : Option Operand) : Option (List Operand) :=
  match f, x with
  | false, none => some []
  | true, some o => some [o]
  | _, _ => none

def boundsO (lo hi mx : Bool) (l h m : Option Operand) : Option (List Operand) :=
  match optO lo l, optO hi h, optO mx m with
  | some a, some b, some c => if mx && !hi then none else some (a ++ b ++ c)
  | _, _, _ => none

def chkK (P : Program) (k : DK) (a : List Opnd) (op : Op) : Bool :=
  match k, op with
  | .mv, .move x | .mv, .assign x => chkOs a [x]
  | .pick, .pick c x y => chkOs a [c, x, y]
  | .binI b, .binOp b' _ x y _ => decide (b = b') && chkOs a [x, y]
  | .eqB neg, .binOp b t x y _ => decide (b = eqOp neg) && chkOs a [x, y] && (match P.underlying t with | some .bool => true | _ => false)
  | .eqN kd neg, .binOp b t x y _ => decide (b = eqOp neg) && chkOs a [x, y] && nilT P t kd
  | .eqA neg ks, .binOp b t x y _ => decide (b = eqOp neg) && chkOs a [x, y] && flatT P t ks && !P.eqGuardType P.depth t
  | .eqS neg, .binOp b t x y _ => decide (b = eqOp neg) && chkOs a [x, y]
  | .notB, .unOp .not _ x => chkOs a [x]
  | .negI _, .unOp .neg _ x => chkOs a [x]
  | .xorI, .unOp .xor _ x => chkOs a [x]
  | .conv k, .convert s d x => chkOs a [x] && (P.underlying s).isSome && (match P.underlying d with | some (.int k') => decide (k = k') | _ => false)
  | .alloc z ag, .alloc t => chkOs a [] && zeroOk P t z && aggT P t == ag
  | .box ag, .box t x => chkOs a [x]
  | .boxV, .box _ x => chkOs a [x]
  | .build z ps, .build t parts => chkOs a (parts.toList.map (·.2)) && zeroOk P t z &&
    (match P.underlying t with
      | some (.struct fs) => ps == parts.toList.map fun (i, _) => match fs[i]? with | some f => (f.offset, (szT P f.type).getD 0) | none => (0, 0)
      | some (.array _ e) => ps == parts.toList.map fun (i, _) => (i * (szT P e).getD 0, (szT P e).getD 0)
      | _ => false) &&
    (match P.underlying t with
      | some (.struct fs) => parts.toList.all (fun (i, _) => i < fs.size) && fs.toList.all fun f => (szT P f.type).isSome
      | some (.array _ e) => (szT P e).isSome
      | _ => false)
  | .bsl _ z ag len ix, .buildSlice t len' parts => chkOs a (parts.toList.map (·.2)) && len == len' && ix == parts.toList.map (·.1) &&
    (match P.underlying t with
      | some (.slice e) => zeroOk P e z && tyOk P e z.length ag && len * z.length ≤ 16777216
      | _ => false)
  | .ld sz ag, .load t x => chkOs a [x] && tyOk P t sz ag
  | .st sz, .store t x y => chkOs a [x, y] && szT P t == some sz
  | .nilck, .nilCheck x => chkOs a [x]
  | .mkfn f nf, .makeFunc (.func f') first captured => f == f' && nf == first.size && chkOs a (first.toList ++ captured.toList)
  | .mkmap, .makeMap t r => chkOs a r.toList && (match P.underlying t with | some (.map _ _) => true | _ => false)
  | .mksl z ag bytes, .makeSlice t l c => chkOs a [l, c] &&
    (match P.underlying t with
      | some (.slice e) => zeroOk P e z && tyOk P e z.length ag && ((P.info? e).map (·.bytes)) == some bytes
      | _ => false)
  | .slc lo hi mx sz ag, .slice t x l h m =>
    (match boundsO lo hi mx l h m with | some os => chkOs a (x :: os) | none => false) &&
    (match P.underlying t with | some (.slice e) => tyOk P e sz ag | _ => false)
  | .slcA lo hi mx n sz ag, .slice t x l h m =>
    (match boundsO lo hi mx l h m with | some os => chkOs a (x :: os) | none => false) &&
    (match P.underlying t with | some (.array n' e) => n == n' && tyOk P e sz ag | _ => false)
  | .fadr off sz ag, .fieldAddr t x f => chkOs a [x] && sz != 0 &&
    (match P.underlying t with | some (.struct fs) => (match fs[f]? with | some fd => fd.offset == off && tyOk P fd.type sz ag | none => false) | _ => false)
  | .fld off sz ag, .field t x f => chkOs a [x] &&
    (match P.underlying t with | some (.struct fs) => (match fs[f]? with | some fd => fd.offset == off && tyOk P fd.type sz ag | none => false) | _ => false)
  | .ixS sz ag, .indexAddr t x i => chkOs a [x, i] && (match P.underlying t with | some (.slice e) => tyOk P e sz ag | _ => false)
  | .ixA n sz ag, .indexAddr t x i => chkOs a [x, i] && (match P.underlying t with | some (.array n' e) => n == n' && tyOk P e sz ag | _ => false)
  | .idx n sz ag, .index t x i => chkOs a [x, i] && (match P.underlying t with | some (.array n' e) => n == n' && tyOk P e sz ag | _ => false)
  | .ixStr, .index t x i => chkOs a [x, i] && (match P.underlying t with | some .string => true | _ => false)
  | .lkp kt z ok, .lookup t m k ok' => chkOs a [m, k] && ok == ok' &&
    (match P.underlying t with
      | some (.map kty e) => keyT P kty kt && (match P.info? e with | some i => (match i.zero with | some v => chkV z v | none => false) | none => false)
      | _ => false)
  | .mset kt, .mapUpdate t m k v | .mset kt, .insert t m k v => chkOs a [m, k, v] && (match P.underlying t with | some (.map kty _) => keyT P kty kt | _ => false)
  | .ext n, .extract x n' => chkOs a [x] && n == n'
  | .app sz ag bytes, .call { callee := .builtin .append, args, argTypes } =>
    chkOs a args.toList &&
    (match argTypes[0]?.bind P.underlying with
      | some (.slice e) => tyOk P e sz ag && ((P.info? e).map (·.bytes)) == some bytes && sz != 0 && bytes != 0 && (match P.info? e with | some i => (match i.zero with | some v => v.cells.size == sz | none => false) | none => false)
      | _ => false) &&
    (match argTypes[1]? with | some u => (match P.underlying u with | some (.slice _) => true | _ => false) | none => false)
  | .len kd, .call { callee := .builtin .len, args, argTypes } =>
    chkOs a args.toList && lenT P argTypes kd
  | .mxI, .call { callee := .builtin .max, args, .. } => chkOs a args.toList
  | .mnI, .call { callee := .builtin .min, args, .. } => chkOs a args.toList
  | .call _, .call { callee := .value f, args, .. } => chkOs a (f :: args.toList)
  | .never, _ => true
  | _, _ => false

def chkG (os : Array Oper) : Option (Nat × Bool) → Option (Nat × Bool) → Bool
  | none, none => true
  | some (s, x), some (j, y) => x == y && (os[j]?).bind (·.dst) == some s
  | _, _ => false

def chkOper (P : Program) (N : Nat) (os : Array Oper) (o : DOper) (x : Oper) : Bool :=
  o.d == x.dst && (o.d.all (· < N)) && chkG os o.g x.guard && chkK P o.k o.a x.op

def chkOpers (P : Program) (N : Nat) (os : Array Oper) : List DOper → List Oper → Bool
  | [], [] => true
  | a :: as, b :: bs => chkOper P N os a b && chkOpers P N os as bs
  | _, _ => false

/-! ### regions that draw -/

/-- it may write what was there -/
def DK.W : DK → Bool
  | .st _ | .mset _ | .app .. | .call .sh => true
  | _ => false

/-- neither memory nor the heap has part in it -/
def DK.P : DK → Bool
  | .mv | .pick | .binI _ | .eqB _ | .eqN .. | .eqA .. | .eqS _ | .notB | .negI _ | .xorI | .conv _ | .build .. | .nilck | .mkfn .. | .slc .. | .fadr .. | .fld .. | .ixS .. | .ixA .. | .idx .. | .ixStr | .ext _ | .mxI | .mnI => true
  | _ => false

def DOper.names (o : DOper) : List Nat := o.d.toList ++ o.a.filterMap (fun | .t s => some s | _ => none) ++ (o.g.map (·.1)).toList

def confl (x y : DOper) : Bool :=
  (match x.d with | some d => y.names.contains d | none => false) || (match y.d with | some d => x.names.contains d | none => false) ||
  (x.k.W && !y.k.P) || (y.k.W && !x.k.P)

def conflAll (y : DOper) (m : Nat) : List DOper → Nat → Bool
  | [], _ => true
  | x :: xs, i => (!confl x y || m.testBit i) && conflAll y m xs (i + 1)

def pairsOk (b : Array Nat) (ds : List DOper) : Nat → List DOper → Bool
  | _, [] => true
  | j, y :: ys => conflAll y (b.getD j 0) (ds.take j) 0 && pairsOk b ds (j + 1) ys

def drawOk (ds : List DOper) (os : Array Oper) : Bool :=
  (os.toList.zipIdx.all fun (o, i) => o.after.toList.all fun e => !Region.binds .any e || e.on < i) && pairsOk (Region.before os) ds 0 ds

/-! ### code -/

def chkC (P : Program) (N : Nat) : DC → Code → Bool
  | .skip, .skip => true
  | .skip, .label _ => true
  | .reg ds _, .region _ os draw => chkOpers P N os ds os.toList && (!draw || drawOk ds os)
  | .seq x y, .seq a b => chkC P N x a && chkC P N y b
  | .cond c x y, .cond c' a b => chkO c c' && chkC P N x a && chkC P N y b
  | .block id x, .block id' a => id == id' && chkC P N x a
  | .scope x, .scope a => chkC P N x a
  | .loop _ x, .loop a => chkC P N x a
  | .exit id, .exit id' => id == id'
  | .ret, .ret => true
  | .rfunc f ps x y _, .rangeFunc f' params a b => chkO f f' && ps == params.toList && ps.all (· < N) && chkC P N x a && chkC P N y b
  | .bad, _ => true
  | _, _ => false

def chkR (P : Program) : List RV → List ResultVar → Bool
  | [], [] => true
  | .t s :: r, .tmp s' :: r' => s == s' && chkR P r r'
  | .c s sz ag :: r, .cell s' t :: r' => s == s' && tyOk P t sz ag && chkR P r r'
  | _, _ => false

def chkF (P : Program) (d : DFun) (fn : Func) : Bool :=
  d.nt == fn.ntmps && d.np ≤ d.nt && (match fn.body with | some c => chkC P d.nt d.body c | none => false) && chkR P d.res fn.results.toList

end Go.Dn
