import Derived.Test.YtgmlmmgpcbollaaDoorProg
import Derived.Test.YtgmlmmgpcbollaaDoorDc
set_option linter.unusedVariables false
set_option maxRecDepth 100000
namespace Go.Proofs.Tryd.Dn
open Go.Dn

-- bibelot/price.are
def c76 : DC :=
 (.seq (.reg [⟨(some 4), (.box false), [.t 1], none⟩,
   ⟨(some 5), (.box false), [.t 2], none⟩,
   ⟨(some 6), .mv, [.c (.b false)], none⟩] [0, 4, 5])
 (.seq (.reg [⟨(some 7), .mv, [.t 0], none⟩,
   ⟨(some 8), (.mkfn 92 0), [.t 4, .t 5], none⟩,
   ⟨(some 9), (.call .sh), [.c (.fn 91 [] []), .t 7, .t 8], none⟩,
   ⟨(some 10), .notB, [.t 9], none⟩,
   ⟨(some 6), .mv, [.t 10], none⟩] [6])
 .ret))

def d76 : DFun := ⟨3, 11, c76, [.t 6]⟩

theorem ok76 : Fok Tryd.prog 76 d76 := ⟨Tryd.f76, Tryd.func76, by kernel_rfl, by kernel_rfl⟩

-- bibelot/price.cost
def b77_0 : DC :=
 (.seq (.reg [⟨(some 11), (.binI .lss), [.t 10, .t 9], none⟩] [1, 5, 8, 9, 10, 11])
 (.seq (.cond (.t 11)
  .skip
  (.exit 0))
 (.seq (.block 1
  (.seq (.reg [⟨(some 12), .mv, [.t 10], none⟩,
    ⟨(some 13), (.ixS 1 false), [.t 8, .t 10], none⟩,
    ⟨(some 14), (.ld 1 false), [.t 13], none⟩,
    ⟨(some 6), .mv, [.t 12], none⟩,
    ⟨(some 7), .mv, [.t 14], none⟩] [1, 5, 6, 7, 8, 9, 10])
  (.reg [⟨(some 15), .mv, [.t 5], none⟩,
    ⟨(some 16), .mv, [.t 7], none⟩,
    ⟨(some 17), .mv, [.t 1], none⟩,
    ⟨(some 18), .mv, [.t 6], none⟩,
    ⟨(some 19), (.ixS 1 false), [.t 17, .t 18], none⟩,
    ⟨(some 20), (.ld 1 false), [.t 19], none⟩,
    ⟨(some 21), (.binI .mul), [.t 16, .t 20], none⟩,
    ⟨(some 22), (.bsl false [(.i .i64 0)] false 1 [0]), [.t 21], none⟩,
    ⟨(some 23), (.app 1 false 8), [.t 15, .t 22], none⟩,
    ⟨(some 5), .mv, [.t 23], none⟩] [1, 5, 8, 9, 10])))
 (.reg [⟨(some 24), (.binI .add), [.t 10, .c (.i .i64 1)], none⟩,
   ⟨(some 10), .mv, [.t 24], none⟩] [1, 5, 8, 9, 10]))))

def l77_1 : DC :=
 (.loop [1, 5, 8, 9, 10] b77_0)

def c77 : DC :=
 (.seq (.reg [⟨(some 4), .mv, [.c (.i .i64 0)], none⟩] [0, 1])
 (.seq (.reg [⟨(some 5), .mv, [.c .nilsl], none⟩] [0, 1, 5])
 (.seq (.seq (.reg [⟨(some 8), .mv, [.t 0], none⟩,
   ⟨(some 9), (.len 0), [.t 8], none⟩,
   ⟨(some 10), .mv, [.c (.i .i64 0)], none⟩] [1, 5, 8, 9, 10])
 (.block 0
  l77_1))
 (.seq (.reg [⟨(some 25), .mv, [.t 5], none⟩,
   ⟨(some 26), (.call (.pu [])), [.c (.fn 70 [] []), .t 25], none⟩,
   ⟨(some 4), .mv, [.t 26], none⟩] [4])
 .ret))))

def d77 : DFun := ⟨2, 27, c77, [.t 4]⟩

theorem ok77 : Fok Tryd.prog 77 d77 := ⟨Tryd.f77, Tryd.func77, by kernel_rfl, by kernel_rfl⟩

-- slices.Min[[]int64,int64]
def b79_0 : DC :=
 (.seq (.seq (.reg [⟨(some 12), .mv, [.t 4], none⟩,
   ⟨(some 13), .mv, [.t 0], none⟩,
   ⟨(some 14), (.len 0), [.t 13], none⟩,
   ⟨(some 15), (.binI .lss), [.t 12, .t 14], none⟩] [0, 3, 4, 15])
 (.cond (.t 15)
  .skip
  (.exit 0)))
 (.seq (.block 1
  (.reg [⟨(some 18), .mv, [.t 3], none⟩,
    ⟨(some 19), .mv, [.t 0], none⟩,
    ⟨(some 20), .mv, [.t 4], none⟩,
    ⟨(some 21), (.ixS 1 false), [.t 19, .t 20], none⟩,
    ⟨(some 22), (.ld 1 false), [.t 21], none⟩,
    ⟨(some 23), .mxI, [.t 18, .t 22], none⟩,
    ⟨(some 3), .mv, [.t 23], none⟩] [0, 3, 4]))
 (.reg [⟨(some 16), .mv, [.t 4], none⟩,
   ⟨(some 17), (.binI .add), [.t 16, .c (.i .i64 1)], none⟩,
   ⟨(some 4), .mv, [.t 17], none⟩] [0, 3, 4])))

def l79_1 : DC :=
 (.loop [0, 3, 4] b79_0)

def c79 : DC :=
 (.seq (.reg [⟨(some 2), .mv, [.c (.i .i64 0)], none⟩] [0])
 (.seq (.seq (.reg [⟨(some 5), .mv, [.t 0], none⟩,
   ⟨(some 6), (.len 0), [.t 5], none⟩,
   ⟨(some 7), (.binI .lss), [.t 6, .c (.i .i64 1)], none⟩] [0, 7])
 (.cond (.t 7)
  (.reg [⟨(some 8), .never, [], none⟩,
    ⟨none, .never, [], none⟩] [0])
  .skip))
 (.seq (.reg [⟨(some 9), .mv, [.t 0], none⟩,
   ⟨(some 10), (.ixS 1 false), [.t 9, .c (.i .i64 0)], none⟩,
   ⟨(some 11), (.ld 1 false), [.t 10], none⟩,
   ⟨(some 3), .mv, [.t 11], none⟩] [0, 3])
 (.seq (.seq (.reg [⟨(some 4), .mv, [.c (.i .i64 1)], none⟩] [0, 3, 4])
 (.block 0
  l79_1))
 (.seq (.reg [⟨(some 24), .mv, [.t 3], none⟩,
   ⟨(some 2), .mv, [.t 24], none⟩] [2])
 .ret)))))

def d79 : DFun := ⟨1, 25, c79, [.t 2]⟩

theorem ok79 : Fok Tryd.prog 79 d79 := ⟨Tryd.f79, Tryd.func79, by kernel_rfl, by kernel_rfl⟩

-- slices.Reverse[[]int,int]
def b80_0 : DC :=
 (.seq (.seq (.reg [⟨(some 7), .mv, [.t 2], none⟩,
   ⟨(some 8), .mv, [.t 3], none⟩,
   ⟨(some 9), (.binI .lss), [.t 7, .t 8], none⟩] [0, 2, 3, 9])
 (.cond (.t 9)
  .skip
  (.exit 0)))
 (.seq (.block 1
  (.reg [⟨(some 14), .mv, [.t 0], none⟩,
    ⟨(some 15), .mv, [.t 2], none⟩,
    ⟨(some 16), .mv, [.t 0], none⟩,
    ⟨(some 17), .mv, [.t 3], none⟩,
    ⟨(some 18), .mv, [.t 0], none⟩,
    ⟨(some 19), .mv, [.t 3], none⟩,
    ⟨(some 20), (.ixS 1 false), [.t 18, .t 19], none⟩,
    ⟨(some 21), (.ld 1 false), [.t 20], none⟩,
    ⟨(some 22), .mv, [.t 0], none⟩,
    ⟨(some 23), .mv, [.t 2], none⟩,
    ⟨(some 24), (.ixS 1 false), [.t 22, .t 23], none⟩,
    ⟨(some 25), (.ld 1 false), [.t 24], none⟩,
    ⟨(some 26), (.ixS 1 false), [.t 14, .t 15], none⟩,
    ⟨none, (.st 1), [.t 26, .t 21], none⟩,
    ⟨(some 27), (.ixS 1 false), [.t 16, .t 17], none⟩,
    ⟨none, (.st 1), [.t 27, .t 25], none⟩] [0, 2, 3]))
 (.reg [⟨(some 10), .mv, [.t 2], none⟩,
   ⟨(some 11), (.binI .add), [.t 10, .c (.i .i64 1)], none⟩,
   ⟨(some 12), .mv, [.t 3], none⟩,
   ⟨(some 13), (.binI .sub), [.t 12, .c (.i .i64 1)], none⟩,
   ⟨(some 2), .mv, [.t 11], none⟩,
   ⟨(some 3), .mv, [.t 13], none⟩] [0, 2, 3])))

def l80_1 : DC :=
 (.loop [0, 2, 3] b80_0)

def c80 : DC :=
 (.seq (.reg [⟨(some 4), .mv, [.t 0], none⟩,
   ⟨(some 5), (.len 0), [.t 4], none⟩,
   ⟨(some 6), (.binI .sub), [.t 5, .c (.i .i64 1)], none⟩,
   ⟨(some 2), .mv, [.c (.i .i64 0)], none⟩,
   ⟨(some 3), .mv, [.t 6], none⟩] [0, 2, 3])
 (.block 0
  l80_1))

def d80 : DFun := ⟨1, 28, c80, []⟩

theorem ok80 : Fok Tryd.prog 80 d80 := ⟨Tryd.f80, Tryd.func80, by kernel_rfl, by kernel_rfl⟩

-- (*bibelot/price.market).subsets$1
def b81_0 : DC :=
 (.seq (.seq (.reg [⟨(some 4), .mv, [.t 3], none⟩,
   ⟨(some 5), (.ld 1 false), [.t 1], none⟩,
   ⟨(some 6), (.call (.pu [])), [.c (.fn 57 [] []), .t 5], none⟩,
   ⟨(some 7), (.binI .leq), [.t 4, .t 6], none⟩,
   ⟨(some 8), .mv, [.t 7], none⟩,
   ⟨(some 9), .mv, [.t 0], (some (8, true))⟩,
   ⟨(some 10), .mv, [.t 3], (some (8, true))⟩,
   ⟨(some 11), (.call .sh), [.t 9, .t 10], (some (8, true))⟩,
   ⟨(some 12), .pick, [.t 8, .t 11, .c (.b false)], none⟩] [0, 1, 3, 12])
 (.cond (.t 12)
  .skip
  (.exit 0)))
 (.seq (.block 1
  .skip)
 (.reg [⟨(some 13), .mv, [.t 3], none⟩,
   ⟨(some 14), (.binI .add), [.t 13, .c (.i .i64 1)], none⟩,
   ⟨(some 3), .mv, [.t 14], none⟩] [0, 1, 3])))

def l81_1 : DC :=
 (.loop [0, 1, 3] b81_0)

def c81 : DC :=
 (.seq (.reg [⟨(some 3), .mv, [.c (.i .i64 1)], none⟩] [0, 1, 3])
 (.block 0
  l81_1))

def d81 : DFun := ⟨2, 15, c81, []⟩

theorem ok81 : Fok Tryd.prog 81 d81 := ⟨Tryd.f81, Tryd.func81, by kernel_rfl, by kernel_rfl⟩

-- math/bits.OnesCount32
def c82 : DC :=
 (.seq (.reg [⟨(some 2), .mv, [.c (.i .i64 0)], none⟩] [0])
 (.seq (.reg [⟨(some 3), .mv, [.t 0], none⟩,
   ⟨(some 4), (.binI .shr), [.t 3, .c (.i .u64 24)], none⟩,
   ⟨(some 5), .ixStr, [.c (.s ⟨#[0, 1, 1, 2, 1, 2, 2, 3, 1, 2, 2, 3, 2, 3, 3, 4, 1, 2, 2, 3, 2, 3, 3, 4, 2, 3, 3, 4, 3, 4, 4, 5, 1, 2, 2, 3, 2, 3, 3, 4, 2, 3, 3, 4, 3, 4, 4, 5, 2, 3, 3, 4, 3, 4, 4, 5, 3, 4, 4, 5, 4, 5, 5, 6, 1, 2, 2, 3, 2, 3, 3, 4, 2, 3, 3, 4, 3, 4, 4, 5, 2, 3, 3, 4, 3, 4, 4, 5, 3, 4, 4, 5, 4, 5, 5, 6, 2, 3, 3, 4, 3, 4, 4, 5, 3, 4, 4, 5, 4, 5, 5, 6, 3, 4, 4, 5, 4, 5, 5, 6, 4, 5, 5, 6, 5, 6, 6, 7, 1, 2, 2, 3, 2, 3, 3, 4, 2, 3, 3, 4, 3, 4, 4, 5, 2, 3, 3, 4, 3, 4, 4, 5, 3, 4, 4, 5, 4, 5, 5, 6, 2, 3, 3, 4, 3, 4, 4, 5, 3, 4, 4, 5, 4, 5, 5, 6, 3, 4, 4, 5, 4, 5, 5, 6, 4, 5, 5, 6, 5, 6, 6, 7, 2, 3, 3, 4, 3, 4, 4, 5, 3, 4, 4, 5, 4, 5, 5, 6, 3, 4, 4, 5, 4, 5, 5, 6, 4, 5, 5, 6, 5, 6, 6, 7, 3, 4, 4, 5, 4, 5, 5, 6, 4, 5, 5, 6, 5, 6, 6, 7, 4, 5, 5, 6, 5, 6, 6, 7, 5, 6, 6, 7, 6, 7, 7, 8]⟩), .t 4], none⟩,
   ⟨(some 6), .mv, [.t 0], none⟩,
   ⟨(some 7), (.binI .shr), [.t 6, .c (.i .u64 16)], none⟩,
   ⟨(some 8), (.binI .and), [.t 7, .c (.i .u32 255)], none⟩,
   ⟨(some 9), .ixStr, [.c (.s ⟨#[0, 1, 1, 2, 1, 2, 2, 3, 1, 2, 2, 3, 2, 3, 3, 4, 1, 2, 2, 3, 2, 3, 3, 4, 2, 3, 3, 4, 3, 4, 4, 5, 1, 2, 2, 3, 2, 3, 3, 4, 2, 3, 3, 4, 3, 4, 4, 5, 2, 3, 3, 4, 3, 4, 4, 5, 3, 4, 4, 5, 4, 5, 5, 6, 1, 2, 2, 3, 2, 3, 3, 4, 2, 3, 3, 4, 3, 4, 4, 5, 2, 3, 3, 4, 3, 4, 4, 5, 3, 4, 4, 5, 4, 5, 5, 6, 2, 3, 3, 4, 3, 4, 4, 5, 3, 4, 4, 5, 4, 5, 5, 6, 3, 4, 4, 5, 4, 5, 5, 6, 4, 5, 5, 6, 5, 6, 6, 7, 1, 2, 2, 3, 2, 3, 3, 4, 2, 3, 3, 4, 3, 4, 4, 5, 2, 3, 3, 4, 3, 4, 4, 5, 3, 4, 4, 5, 4, 5, 5, 6, 2, 3, 3, 4, 3, 4, 4, 5, 3, 4, 4, 5, 4, 5, 5, 6, 3, 4, 4, 5, 4, 5, 5, 6, 4, 5, 5, 6, 5, 6, 6, 7, 2, 3, 3, 4, 3, 4, 4, 5, 3, 4, 4, 5, 4, 5, 5, 6, 3, 4, 4, 5, 4, 5, 5, 6, 4, 5, 5, 6, 5, 6, 6, 7, 3, 4, 4, 5, 4, 5, 5, 6, 4, 5, 5, 6, 5, 6, 6, 7, 4, 5, 5, 6, 5, 6, 6, 7, 5, 6, 6, 7, 6, 7, 7, 8]⟩), .t 8], none⟩,
   ⟨(some 10), (.binI .add), [.t 5, .t 9], none⟩,
   ⟨(some 11), .mv, [.t 0], none⟩,
   ⟨(some 12), (.binI .shr), [.t 11, .c (.i .u64 8)], none⟩,
   ⟨(some 13), (.binI .and), [.t 12, .c (.i .u32 255)], none⟩,
   ⟨(some 14), .ixStr, [.c (.s ⟨#[0, 1, 1, 2, 1, 2, 2, 3, 1, 2, 2, 3, 2, 3, 3, 4, 1, 2, 2, 3, 2, 3, 3, 4, 2, 3, 3, 4, 3, 4, 4, 5, 1, 2, 2, 3, 2, 3, 3, 4, 2, 3, 3, 4, 3, 4, 4, 5, 2, 3, 3, 4, 3, 4, 4, 5, 3, 4, 4, 5, 4, 5, 5, 6, 1, 2, 2, 3, 2, 3, 3, 4, 2, 3, 3, 4, 3, 4, 4, 5, 2, 3, 3, 4, 3, 4, 4, 5, 3, 4, 4, 5, 4, 5, 5, 6, 2, 3, 3, 4, 3, 4, 4, 5, 3, 4, 4, 5, 4, 5, 5, 6, 3, 4, 4, 5, 4, 5, 5, 6, 4, 5, 5, 6, 5, 6, 6, 7, 1, 2, 2, 3, 2, 3, 3, 4, 2, 3, 3, 4, 3, 4, 4, 5, 2, 3, 3, 4, 3, 4, 4, 5, 3, 4, 4, 5, 4, 5, 5, 6, 2, 3, 3, 4, 3, 4, 4, 5, 3, 4, 4, 5, 4, 5, 5, 6, 3, 4, 4, 5, 4, 5, 5, 6, 4, 5, 5, 6, 5, 6, 6, 7, 2, 3, 3, 4, 3, 4, 4, 5, 3, 4, 4, 5, 4, 5, 5, 6, 3, 4, 4, 5, 4, 5, 5, 6, 4, 5, 5, 6, 5, 6, 6, 7, 3, 4, 4, 5, 4, 5, 5, 6, 4, 5, 5, 6, 5, 6, 6, 7, 4, 5, 5, 6, 5, 6, 6, 7, 5, 6, 6, 7, 6, 7, 7, 8]⟩), .t 13], none⟩,
   ⟨(some 15), (.binI .add), [.t 10, .t 14], none⟩,
   ⟨(some 16), .mv, [.t 0], none⟩,
   ⟨(some 17), (.binI .and), [.t 16, .c (.i .u32 255)], none⟩,
   ⟨(some 18), .ixStr, [.c (.s ⟨#[0, 1, 1, 2, 1, 2, 2, 3, 1, 2, 2, 3, 2, 3, 3, 4, 1, 2, 2, 3, 2, 3, 3, 4, 2, 3, 3, 4, 3, 4, 4, 5, 1, 2, 2, 3, 2, 3, 3, 4, 2, 3, 3, 4, 3, 4, 4, 5, 2, 3, 3, 4, 3, 4, 4, 5, 3, 4, 4, 5, 4, 5, 5, 6, 1, 2, 2, 3, 2, 3, 3, 4, 2, 3, 3, 4, 3, 4, 4, 5, 2, 3, 3, 4, 3, 4, 4, 5, 3, 4, 4, 5, 4, 5, 5, 6, 2, 3, 3, 4, 3, 4, 4, 5, 3, 4, 4, 5, 4, 5, 5, 6, 3, 4, 4, 5, 4, 5, 5, 6, 4, 5, 5, 6, 5, 6, 6, 7, 1, 2, 2, 3, 2, 3, 3, 4, 2, 3, 3, 4, 3, 4, 4, 5, 2, 3, 3, 4, 3, 4, 4, 5, 3, 4, 4, 5, 4, 5, 5, 6, 2, 3, 3, 4, 3, 4, 4, 5, 3, 4, 4, 5, 4, 5, 5, 6, 3, 4, 4, 5, 4, 5, 5, 6, 4, 5, 5, 6, 5, 6, 6, 7, 2, 3, 3, 4, 3, 4, 4, 5, 3, 4, 4, 5, 4, 5, 5, 6, 3, 4, 4, 5, 4, 5, 5, 6, 4, 5, 5, 6, 5, 6, 6, 7, 3, 4, 4, 5, 4, 5, 5, 6, 4, 5, 5, 6, 5, 6, 6, 7, 4, 5, 5, 6, 5, 6, 6, 7, 5, 6, 6, 7, 6, 7, 7, 8]⟩), .t 17], none⟩,
   ⟨(some 19), (.binI .add), [.t 15, .t 18], none⟩,
   ⟨(some 20), (.conv .i64), [.t 19], none⟩,
   ⟨(some 2), .mv, [.t 20], none⟩] [2])
 .ret))

def d82 : DFun := ⟨1, 21, c82, [.t 2]⟩

theorem ok82 : Fok Tryd.prog 82 d82 := ⟨Tryd.f82, Tryd.func82, by kernel_rfl, by kernel_rfl⟩

-- math/bits.OnesCount64
def c83 : DC :=
 (.seq (.reg [⟨(some 2), .mv, [.c (.i .i64 0)], none⟩] [0])
 (.seq (.reg [⟨(some 3), .mv, [.t 0], none⟩,
   ⟨(some 4), (.binI .shr), [.t 3, .c (.i .u64 1)], none⟩,
   ⟨(some 5), (.binI .and), [.t 4, .c (.i .u64 6148914691236517205)], none⟩,
   ⟨(some 6), .mv, [.t 0], none⟩,
   ⟨(some 7), (.binI .and), [.t 6, .c (.i .u64 6148914691236517205)], none⟩,
   ⟨(some 8), (.binI .add), [.t 5, .t 7], none⟩,
   ⟨(some 0), .mv, [.t 8], none⟩] [0])
 (.seq (.reg [⟨(some 9), .mv, [.t 0], none⟩,
   ⟨(some 10), (.binI .shr), [.t 9, .c (.i .u64 2)], none⟩,
   ⟨(some 11), (.binI .and), [.t 10, .c (.i .u64 3689348814741910323)], none⟩,
   ⟨(some 12), .mv, [.t 0], none⟩,
   ⟨(some 13), (.binI .and), [.t 12, .c (.i .u64 3689348814741910323)], none⟩,
   ⟨(some 14), (.binI .add), [.t 11, .t 13], none⟩,
   ⟨(some 0), .mv, [.t 14], none⟩] [0])
 (.seq (.reg [⟨(some 15), .mv, [.t 0], none⟩,
   ⟨(some 16), (.binI .shr), [.t 15, .c (.i .u64 4)], none⟩,
   ⟨(some 17), .mv, [.t 0], none⟩,
   ⟨(some 18), (.binI .add), [.t 16, .t 17], none⟩,
   ⟨(some 19), (.binI .and), [.t 18, .c (.i .u64 1085102592571150095)], none⟩,
   ⟨(some 0), .mv, [.t 19], none⟩] [0])
 (.seq (.reg [⟨(some 20), .mv, [.t 0], none⟩,
   ⟨(some 21), .mv, [.t 0], none⟩,
   ⟨(some 22), (.binI .shr), [.t 21, .c (.i .u64 8)], none⟩,
   ⟨(some 23), (.binI .add), [.t 20, .t 22], none⟩,
   ⟨(some 0), .mv, [.t 23], none⟩] [0])
 (.seq (.reg [⟨(some 24), .mv, [.t 0], none⟩,
   ⟨(some 25), .mv, [.t 0], none⟩,
   ⟨(some 26), (.binI .shr), [.t 25, .c (.i .u64 16)], none⟩,
   ⟨(some 27), (.binI .add), [.t 24, .t 26], none⟩,
   ⟨(some 0), .mv, [.t 27], none⟩] [0])
 (.seq (.reg [⟨(some 28), .mv, [.t 0], none⟩,
   ⟨(some 29), .mv, [.t 0], none⟩,
   ⟨(some 30), (.binI .shr), [.t 29, .c (.i .u64 32)], none⟩,
   ⟨(some 31), (.binI .add), [.t 28, .t 30], none⟩,
   ⟨(some 0), .mv, [.t 31], none⟩] [0])
 (.seq (.reg [⟨(some 32), .mv, [.t 0], none⟩,
   ⟨(some 33), (.conv .i64), [.t 32], none⟩,
   ⟨(some 34), (.binI .and), [.t 33, .c (.i .i64 127)], none⟩,
   ⟨(some 2), .mv, [.t 34], none⟩] [2])
 .ret))))))))

def d83 : DFun := ⟨1, 35, c83, [.t 2]⟩

theorem ok83 : Fok Tryd.prog 83 d83 := ⟨Tryd.f83, Tryd.func83, by kernel_rfl, by kernel_rfl⟩

-- cmp.Compare[int]
def c84 : DC :=
 (.seq (.reg [⟨(some 4), .mv, [.c (.i .i64 0)], none⟩] [0, 1])
 (.seq (.reg [⟨(some 7), .mv, [.t 0], none⟩,
   ⟨(some 8), (.call (.pu [])), [.c (.fn 93 [] []), .t 7], none⟩,
   ⟨(some 5), .mv, [.t 8], none⟩] [0, 1, 5])
 (.seq (.reg [⟨(some 9), .mv, [.t 1], none⟩,
   ⟨(some 10), (.call (.pu [])), [.c (.fn 93 [] []), .t 9], none⟩,
   ⟨(some 6), .mv, [.t 10], none⟩] [0, 1, 5, 6])
 (.seq (.seq (.reg [⟨(some 11), .mv, [.t 5], none⟩] [0, 1, 6, 11])
 (.cond (.t 11)
  (.seq (.seq (.reg [⟨(some 12), .mv, [.t 6], none⟩] [12])
  (.cond (.t 12)
   (.seq (.reg [⟨(some 4), .mv, [.c (.i .i64 0)], none⟩] [4])
   .ret)
   .skip))
  (.seq (.reg [⟨(some 4), .mv, [.c (.i .i64 (-1))], none⟩] [4])
  .ret))
  .skip))
 (.seq (.seq (.reg [⟨(some 13), .mv, [.t 6], none⟩] [0, 1, 13])
 (.cond (.t 13)
  (.seq (.reg [⟨(some 4), .mv, [.c (.i .i64 1)], none⟩] [4])
  .ret)
  .skip))
 (.seq (.seq (.reg [⟨(some 14), .mv, [.t 0], none⟩,
   ⟨(some 15), .mv, [.t 1], none⟩,
   ⟨(some 16), (.binI .lss), [.t 14, .t 15], none⟩] [0, 1, 16])
 (.cond (.t 16)
  (.seq (.reg [⟨(some 4), .mv, [.c (.i .i64 (-1))], none⟩] [4])
  .ret)
  .skip))
 (.seq (.seq (.reg [⟨(some 17), .mv, [.t 0], none⟩,
   ⟨(some 18), .mv, [.t 1], none⟩,
   ⟨(some 19), (.binI .gtr), [.t 17, .t 18], none⟩] [19])
 (.cond (.t 19)
  (.seq (.reg [⟨(some 4), .mv, [.c (.i .i64 1)], none⟩] [4])
  .ret)
  .skip))
 (.seq (.reg [⟨(some 4), .mv, [.c (.i .i64 0)], none⟩] [4])
 .ret))))))))

def d84 : DFun := ⟨2, 20, c84, [.t 4]⟩

theorem ok84 : Fok Tryd.prog 84 d84 := ⟨Tryd.f84, Tryd.func84, by kernel_rfl, by kernel_rfl⟩

-- slices.Contains[[]int,int]
def c85 : DC :=
 (.seq (.reg [⟨(some 4), .mv, [.c (.b false)], none⟩] [0, 1])
 (.seq (.reg [⟨(some 5), .mv, [.t 0], none⟩,
   ⟨(some 6), .mv, [.t 1], none⟩,
   ⟨(some 7), (.call (.pu [])), [.c (.fn 94 [] []), .t 5, .t 6], none⟩,
   ⟨(some 8), (.binI .geq), [.t 7, .c (.i .i64 0)], none⟩,
   ⟨(some 4), .mv, [.t 8], none⟩] [4])
 .ret))

def d85 : DFun := ⟨2, 9, c85, [.t 4]⟩

theorem ok85 : Fok Tryd.prog 85 d85 := ⟨Tryd.f85, Tryd.func85, by kernel_rfl, by kernel_rfl⟩

-- (*bibelot/price.market).numbers$1
def b86_0 : DC :=
 (.seq (.reg [⟨(some 42), (.binI .lss), [.t 41, .t 40], none⟩] [0, 1, 2, 3, 4, 5, 6, 40, 41, 42])
 (.seq (.cond (.t 42)
  .skip
  (.exit 2))
 (.seq (.block 3
  (.seq (.reg [⟨(some 43), .mv, [.t 41], none⟩,
    ⟨(some 7), .mv, [.t 43], none⟩] [0, 1, 2, 3, 4, 5, 6, 7, 40, 41])
  (.seq (.reg [⟨(some 44), .mv, [.t 4], none⟩,
    ⟨(some 45), .mv, [.t 7], none⟩,
    ⟨(some 46), (.conv .u64), [.t 45], none⟩,
    ⟨(some 47), (.binI .shr), [.t 44, .t 46], none⟩,
    ⟨(some 48), (.binI .and), [.t 47, .c (.i .i64 1)], none⟩,
    ⟨(some 49), (.binI .eql), [.t 48, .c (.i .i64 1)], none⟩,
    ⟨(some 50), .mv, [.t 49], none⟩,
    ⟨(some 51), (.ld 1 false), [.t 1], (some (50, true))⟩,
    ⟨(some 52), .mv, [.t 6], (some (50, true))⟩,
    ⟨(some 53), .mv, [.t 7], (some (50, true))⟩,
    ⟨(some 54), .mv, [.t 4], (some (50, true))⟩,
    ⟨(some 55), (.ld 2 true), [.g 0], (some (50, true))⟩,
    ⟨(some 56), (.call (.pu [])), [.c (.fn 56 [] []), .t 51, .t 52, .t 53, .t 54, .t 55], (some (50, true))⟩,
    ⟨(some 57), (.eqN 0 true), [.t 56, .c .nilsl], (some (50, true))⟩,
    ⟨(some 58), .pick, [.t 50, .t 57, .c (.b false)], none⟩,
    ⟨(some 59), .mv, [.t 58], none⟩,
    ⟨(some 60), (.ld 1 false), [.t 1], (some (59, true))⟩,
    ⟨(some 61), .mv, [.t 7], (some (59, true))⟩,
    ⟨(some 62), .mv, [.t 6], (some (59, true))⟩,
    ⟨(some 63), .mv, [.t 4], (some (59, true))⟩,
    ⟨(some 64), (.ld 2 true), [.g 0], (some (59, true))⟩,
    ⟨(some 65), (.call (.pu [])), [.c (.fn 56 [] []), .t 60, .t 61, .t 62, .t 63, .t 64], (some (59, true))⟩,
    ⟨(some 66), (.eqN 0 true), [.t 65, .c .nilsl], (some (59, true))⟩,
    ⟨(some 67), .pick, [.t 59, .t 66, .c (.b false)], none⟩] [0, 1, 2, 3, 4, 5, 6, 7, 40, 41, 67])
  (.cond (.t 67)
   (.reg [⟨(some 68), .mv, [.t 5], none⟩,
     ⟨(some 69), .mv, [.t 7], none⟩,
     ⟨(some 70), (.bsl false [(.i .i64 0)] false 1 [0]), [.t 69], none⟩,
     ⟨(some 71), (.app 1 false 8), [.t 68, .t 70], none⟩,
     ⟨(some 5), .mv, [.t 71], none⟩] [0, 1, 2, 3, 4, 5, 6, 40, 41])
   .skip))))
 (.reg [⟨(some 72), (.binI .add), [.t 41, .c (.i .i64 1)], none⟩,
   ⟨(some 41), .mv, [.t 72], none⟩] [0, 1, 2, 3, 4, 5, 6, 40, 41]))))

def l86_1 : DC :=
 (.loop [0, 1, 2, 3, 4, 5, 6, 40, 41] b86_0)

def b86_2 : DC :=
 (.seq (.reg [⟨(some 23), (.binI .lss), [.t 22, .t 21], none⟩] [0, 1, 2, 3, 4, 5, 21, 22, 23])
 (.seq (.cond (.t 23)
  .skip
  (.exit 0))
 (.seq (.block 1
  (.seq (.reg [⟨(some 24), .mv, [.t 22], none⟩,
    ⟨(some 6), .mv, [.t 24], none⟩] [0, 1, 2, 3, 4, 5, 6, 21, 22])
  (.seq (.reg [⟨(some 25), .mv, [.t 4], none⟩,
    ⟨(some 26), .mv, [.t 6], none⟩,
    ⟨(some 27), (.conv .u64), [.t 26], none⟩,
    ⟨(some 28), (.binI .shr), [.t 25, .t 27], none⟩,
    ⟨(some 29), (.binI .and), [.t 28, .c (.i .i64 1)], none⟩,
    ⟨(some 30), (.binI .eql), [.t 29, .c (.i .i64 1)], none⟩,
    ⟨(some 31), .mv, [.t 30], none⟩,
    ⟨(some 32), (.ld 1 false), [.t 1], (some (31, true))⟩,
    ⟨(some 33), .mv, [.t 6], (some (31, true))⟩,
    ⟨(some 34), .mv, [.t 4], (some (31, true))⟩,
    ⟨(some 35), (.call (.pu [])), [.c (.fn 87 [] []), .t 32, .t 33, .t 34], (some (31, true))⟩,
    ⟨(some 36), .pick, [.t 31, .t 35, .c (.b false)], none⟩] [0, 1, 2, 3, 4, 5, 6, 21, 22, 36])
  (.cond (.t 36)
   (.seq (.seq (.reg [⟨(some 37), (.ld 1 false), [.t 1], none⟩,
     ⟨(some 38), .nilck, [.t 37], none⟩,
     ⟨(some 39), (.fadr 0 1 false), [.t 38], none⟩,
     ⟨(some 40), (.ld 1 false), [.t 39], none⟩,
     ⟨(some 41), .mv, [.c (.i .i64 0)], none⟩] [0, 1, 2, 3, 4, 5, 6, 40, 41])
   (.block 2
    l86_1))
   (.exit 0))
   .skip))))
 (.reg [⟨(some 73), (.binI .add), [.t 22, .c (.i .i64 1)], none⟩,
   ⟨(some 22), .mv, [.t 73], none⟩] [0, 1, 2, 3, 4, 5, 21, 22]))))

def l86_3 : DC :=
 (.loop [0, 1, 2, 3, 4, 5, 21, 22] b86_2)

def b86_4 : DC :=
 (.seq (.reg [⟨(some 81), (.binI .lss), [.t 80, .t 79], none⟩] [0, 3, 78, 79, 80, 81])
 (.seq (.cond (.t 81)
  .skip
  (.exit 4))
 (.seq (.block 5
  (.seq (.reg [⟨(some 82), (.ixS 1 false), [.t 78, .t 80], none⟩,
    ⟨(some 83), (.ld 1 false), [.t 82], none⟩,
    ⟨(some 9), .mv, [.t 83], none⟩] [0, 3, 9, 78, 79, 80])
  (.reg [⟨(some 84), (.ld 1 false), [.t 0], none⟩,
    ⟨(some 85), .mv, [.t 9], none⟩,
    ⟨(some 86), (.conv .u64), [.t 85], none⟩,
    ⟨(some 87), (.binI .shl), [.c (.i .i64 1), .t 86], none⟩,
    ⟨(some 88), (.binI .or), [.t 84, .t 87], none⟩,
    ⟨none, (.st 1), [.t 0, .t 88], none⟩] [0, 3, 78, 79, 80])))
 (.reg [⟨(some 89), (.binI .add), [.t 80, .c (.i .i64 1)], none⟩,
   ⟨(some 80), .mv, [.t 89], none⟩] [0, 3, 78, 79, 80]))))

def l86_5 : DC :=
 (.loop [0, 3, 78, 79, 80] b86_4)

def c86 : DC :=
 (.seq (.seq (.reg [⟨(some 10), (.ld 1 false), [.t 0], none⟩,
   ⟨(some 11), (.ld 1 false), [.t 1], none⟩,
   ⟨(some 12), (.call (.pu [])), [.c (.fn 57 [] []), .t 11], none⟩,
   ⟨(some 13), (.binI .eql), [.t 10, .t 12], none⟩] [0, 1, 2, 3, 13])
 (.cond (.t 13)
  .ret
  .skip))
 (.seq (.reg [⟨(some 14), (.ld 1 false), [.t 1], none⟩,
   ⟨(some 15), (.call (.pu [])), [.c (.fn 57 [] []), .t 14], none⟩,
   ⟨(some 16), (.ld 1 false), [.t 0], none⟩,
   ⟨(some 17), (.binI .andNot), [.t 15, .t 16], none⟩,
   ⟨(some 4), .mv, [.t 17], none⟩] [0, 1, 2, 3, 4])
 (.seq (.reg [⟨(some 5), .mv, [.c .nilsl], none⟩] [0, 1, 2, 3, 4, 5])
 (.seq (.seq (.reg [⟨(some 18), (.ld 1 false), [.t 1], none⟩,
   ⟨(some 19), .nilck, [.t 18], none⟩,
   ⟨(some 20), (.fadr 0 1 false), [.t 19], none⟩,
   ⟨(some 21), (.ld 1 false), [.t 20], none⟩,
   ⟨(some 22), .mv, [.c (.i .i64 0)], none⟩] [0, 1, 2, 3, 4, 5, 21, 22])
 (.block 0
  l86_3))
 (.seq (.reg [⟨(some 74), (.ld 1 false), [.t 1], none⟩,
   ⟨(some 75), (.ld 1 false), [.t 0], none⟩,
   ⟨(some 76), .mv, [.t 5], none⟩,
   ⟨(some 77), (.call .sh), [.c (.fn 88 [] []), .t 74, .t 2, .t 75, .t 76], none⟩] [0, 3, 5])
 (.seq (.seq (.reg [⟨(some 78), .mv, [.t 5], none⟩,
   ⟨(some 79), (.len 0), [.t 78], none⟩,
   ⟨(some 80), .mv, [.c (.i .i64 0)], none⟩] [0, 3, 78, 79, 80])
 (.block 4
  l86_5))
 (.reg [⟨(some 90), (.ld 1 false), [.t 3], none⟩,
   ⟨(some 91), (.call .sh), [.t 90], none⟩] [])))))))

def d86 : DFun := ⟨4, 92, c86, []⟩

theorem ok86 : Fok Tryd.prog 86 d86 := ⟨Tryd.f86, Tryd.func86, by kernel_rfl, by kernel_rfl⟩

-- (*bibelot/price.market).isTop
def b87_0 : DC :=
 (.seq (.reg [⟨(some 13), (.binI .lss), [.t 12, .t 11], none⟩] [0, 1, 2, 11, 12, 13])
 (.seq (.cond (.t 13)
  .skip
  (.exit 0))
 (.seq (.block 1
  (.seq (.reg [⟨(some 14), .mv, [.t 12], none⟩,
    ⟨(some 7), .mv, [.t 14], none⟩] [0, 1, 2, 7, 11, 12])
  (.seq (.reg [⟨(some 15), .mv, [.t 2], none⟩,
    ⟨(some 16), .mv, [.t 7], none⟩,
    ⟨(some 17), (.conv .u64), [.t 16], none⟩,
    ⟨(some 18), (.binI .shr), [.t 15, .t 17], none⟩,
    ⟨(some 19), (.binI .and), [.t 18, .c (.i .i64 1)], none⟩,
    ⟨(some 20), (.binI .eql), [.t 19, .c (.i .i64 1)], none⟩,
    ⟨(some 21), .mv, [.t 20], none⟩,
    ⟨(some 22), .mv, [.t 0], (some (21, true))⟩,
    ⟨(some 23), .mv, [.t 7], (some (21, true))⟩,
    ⟨(some 24), .mv, [.t 1], (some (21, true))⟩,
    ⟨(some 25), .mv, [.t 2], (some (21, true))⟩,
    ⟨(some 26), (.ld 2 true), [.g 0], (some (21, true))⟩,
    ⟨(some 27), (.call (.pu [])), [.c (.fn 56 [] []), .t 22, .t 23, .t 24, .t 25, .t 26], (some (21, true))⟩,
    ⟨(some 28), (.eqN 0 true), [.t 27, .c .nilsl], (some (21, true))⟩,
    ⟨(some 29), .pick, [.t 21, .t 28, .c (.b false)], none⟩,
    ⟨(some 30), .mv, [.t 29], none⟩,
    ⟨(some 31), .mv, [.t 0], (some (30, true))⟩,
    ⟨(some 32), .mv, [.t 1], (some (30, true))⟩,
    ⟨(some 33), .mv, [.t 7], (some (30, true))⟩,
    ⟨(some 34), .mv, [.t 2], (some (30, true))⟩,
    ⟨(some 35), (.ld 2 true), [.g 0], (some (30, true))⟩,
    ⟨(some 36), (.call (.pu [])), [.c (.fn 56 [] []), .t 31, .t 32, .t 33, .t 34, .t 35], (some (30, true))⟩,
    ⟨(some 37), (.eqN 0 false), [.t 36, .c .nilsl], (some (30, true))⟩,
    ⟨(some 38), .pick, [.t 30, .t 37, .c (.b false)], none⟩] [0, 1, 2, 11, 12, 38])
  (.cond (.t 38)
   (.seq (.reg [⟨(some 6), .mv, [.c (.b false)], none⟩] [6])
   .ret)
   .skip))))
 (.reg [⟨(some 39), (.binI .add), [.t 12, .c (.i .i64 1)], none⟩,
   ⟨(some 12), .mv, [.t 39], none⟩] [0, 1, 2, 11, 12]))))

def l87_1 : DC :=
 (.loop [0, 1, 2, 11, 12] b87_0)

def c87 : DC :=
 (.seq (.reg [⟨(some 6), .mv, [.c (.b false)], none⟩] [0, 1, 2])
 (.seq (.seq (.reg [⟨(some 8), .mv, [.t 0], none⟩,
   ⟨(some 9), .nilck, [.t 8], none⟩,
   ⟨(some 10), (.fadr 0 1 false), [.t 9], none⟩,
   ⟨(some 11), (.ld 1 false), [.t 10], none⟩,
   ⟨(some 12), .mv, [.c (.i .i64 0)], none⟩] [0, 1, 2, 11, 12])
 (.block 0
  l87_1))
 (.seq (.reg [⟨(some 6), .mv, [.c (.b true)], none⟩] [6])
 .ret)))

def d87 : DFun := ⟨3, 40, c87, [.t 6]⟩

theorem ok87 : Fok Tryd.prog 87 d87 := ⟨Tryd.f87, Tryd.func87, by kernel_rfl, by kernel_rfl⟩

-- (*bibelot/price.market).value
def b88_0 : DC :=
 (.seq (.reg [⟨(some 28), (.binI .lss), [.t 27, .t 26], none⟩] [0, 1, 2, 3, 8, 10, 17, 18, 19, 26, 27, 28])
 (.seq (.cond (.t 28)
  .skip
  (.exit 2))
 (.seq (.block 3
  (.seq (.reg [⟨(some 29), .mv, [.t 27], none⟩,
    ⟨(some 11), .mv, [.t 29], none⟩] [0, 1, 2, 3, 8, 10, 11, 17, 18, 19, 26, 27])
  (.seq (.reg [⟨(some 30), .mv, [.t 2], none⟩,
    ⟨(some 31), .mv, [.t 11], none⟩,
    ⟨(some 32), (.conv .u64), [.t 31], none⟩,
    ⟨(some 33), (.binI .shr), [.t 30, .t 32], none⟩,
    ⟨(some 34), (.binI .and), [.t 33, .c (.i .i64 1)], none⟩,
    ⟨(some 35), (.binI .eql), [.t 34, .c (.i .i64 1)], none⟩] [0, 1, 2, 3, 8, 10, 11, 17, 18, 19, 26, 27, 35])
  (.cond (.t 35)
   (.reg [⟨(some 36), .mv, [.t 8], none⟩,
     ⟨(some 37), .mv, [.t 1], none⟩,
     ⟨(some 38), .mv, [.t 11], none⟩,
     ⟨(some 39), .nilck, [.t 37], none⟩,
     ⟨(some 40), (.fadr 0 5 true), [.t 39], none⟩,
     ⟨(some 41), (.ixA 5 1 false), [.t 40, .t 38], none⟩,
     ⟨(some 42), (.ld 1 false), [.t 41], none⟩,
     ⟨(some 43), .mv, [.t 1], none⟩,
     ⟨(some 44), .mv, [.t 11], none⟩,
     ⟨(some 45), .nilck, [.t 43], none⟩,
     ⟨(some 46), (.fadr 0 5 true), [.t 45], none⟩,
     ⟨(some 47), (.ixA 5 1 false), [.t 46, .t 44], none⟩,
     ⟨(some 48), (.ld 1 false), [.t 47], none⟩,
     ⟨(some 49), .mv, [.t 1], none⟩,
     ⟨(some 50), .mv, [.t 11], none⟩,
     ⟨(some 51), .nilck, [.t 49], none⟩,
     ⟨(some 52), (.fadr 5 5 true), [.t 51], none⟩,
     ⟨(some 53), (.ixA 5 1 false), [.t 52, .t 50], none⟩,
     ⟨(some 54), (.ld 1 false), [.t 53], none⟩,
     ⟨(some 55), .mv, [.t 0], none⟩,
     ⟨(some 56), .mv, [.t 11], none⟩,
     ⟨(some 57), .mv, [.t 10], none⟩,
     ⟨(some 58), (.call (.pu [])), [.c (.fn 90 [] []), .t 55, .t 56, .t 57], none⟩,
     ⟨(some 59), (.binI .mul), [.t 54, .t 58], none⟩,
     ⟨(some 60), (.binI .add), [.t 48, .t 59], none⟩,
     ⟨(some 61), .mnI, [.t 36, .t 42, .t 60], none⟩,
     ⟨(some 8), .mv, [.t 61], none⟩] [0, 1, 2, 3, 8, 10, 17, 18, 19, 26, 27])
   .skip))))
 (.reg [⟨(some 62), (.binI .add), [.t 27, .c (.i .i64 1)], none⟩,
   ⟨(some 27), .mv, [.t 62], none⟩] [0, 1, 2, 3, 8, 10, 17, 18, 19, 26, 27]))))

def l88_1 : DC :=
 (.loop [0, 1, 2, 3, 8, 10, 17, 18, 19, 26, 27] b88_0)

def b88_2 : DC :=
 (.seq (.reg [⟨(some 20), (.binI .lss), [.t 19, .t 18], none⟩] [0, 1, 2, 3, 8, 17, 18, 19, 20])
 (.seq (.cond (.t 20)
  .skip
  (.exit 0))
 (.seq (.block 1
  (.seq (.reg [⟨(some 21), (.ixS 1 false), [.t 17, .t 19], none⟩,
    ⟨(some 22), (.ld 1 false), [.t 21], none⟩,
    ⟨(some 10), .mv, [.t 22], none⟩] [0, 1, 2, 3, 8, 10, 17, 18, 19])
  (.seq (.reg [⟨(some 23), .mv, [.t 0], none⟩,
    ⟨(some 24), .nilck, [.t 23], none⟩,
    ⟨(some 25), (.fadr 0 1 false), [.t 24], none⟩,
    ⟨(some 26), (.ld 1 false), [.t 25], none⟩,
    ⟨(some 27), .mv, [.c (.i .i64 0)], none⟩] [0, 1, 2, 3, 8, 10, 17, 18, 19, 26, 27])
  (.block 2
   l88_1))))
 (.reg [⟨(some 63), (.binI .add), [.t 19, .c (.i .i64 1)], none⟩,
   ⟨(some 19), .mv, [.t 63], none⟩] [0, 1, 2, 3, 8, 17, 18, 19]))))

def l88_3 : DC :=
 (.loop [0, 1, 2, 3, 8, 17, 18, 19] b88_2)

def b88_4 : DC :=
 (.seq (.reg [⟨(some 75), (.binI .lss), [.t 74, .t 73], none⟩] [0, 1, 2, 8, 13, 14, 64, 65, 66, 73, 74, 75])
 (.seq (.cond (.t 75)
  .skip
  (.exit 6))
 (.seq (.block 7
  (.seq (.reg [⟨(some 76), .mv, [.t 74], none⟩,
    ⟨(some 15), .mv, [.t 76], none⟩] [0, 1, 2, 8, 13, 14, 15, 64, 65, 66, 73, 74])
  (.seq (.reg [⟨(some 77), .mv, [.t 0], none⟩,
    ⟨(some 78), .mv, [.t 13], none⟩,
    ⟨(some 79), .mv, [.t 15], none⟩,
    ⟨(some 80), (.call (.pu [])), [.c (.fn 90 [] []), .t 77, .t 78, .t 79], none⟩,
    ⟨(some 16), .mv, [.t 80], none⟩] [0, 1, 2, 8, 13, 14, 15, 16, 64, 65, 66, 73, 74])
  (.seq (.reg [⟨(some 81), .mv, [.t 2], none⟩,
    ⟨(some 82), .mv, [.t 15], none⟩,
    ⟨(some 83), (.conv .u64), [.t 82], none⟩,
    ⟨(some 84), (.binI .shr), [.t 81, .t 83], none⟩,
    ⟨(some 85), (.binI .and), [.t 84, .c (.i .i64 1)], none⟩,
    ⟨(some 86), (.binI .eql), [.t 85, .c (.i .i64 1)], none⟩,
    ⟨(some 87), .mv, [.t 86], none⟩,
    ⟨(some 88), .mv, [.t 16], (some (87, true))⟩,
    ⟨(some 89), (.binI .gtr), [.t 88, .c (.i .i64 0)], (some (87, true))⟩,
    ⟨(some 90), .pick, [.t 87, .t 89, .c (.b false)], none⟩] [0, 1, 2, 8, 13, 14, 15, 16, 64, 65, 66, 73, 74, 90])
  (.cond (.t 90)
   (.reg [⟨(some 91), .mv, [.t 14], none⟩,
     ⟨(some 92), .mv, [.t 1], none⟩,
     ⟨(some 93), .mv, [.t 15], none⟩,
     ⟨(some 94), .nilck, [.t 92], none⟩,
     ⟨(some 95), (.fadr 0 5 true), [.t 94], none⟩,
     ⟨(some 96), (.ixA 5 1 false), [.t 95, .t 93], none⟩,
     ⟨(some 97), (.ld 1 false), [.t 96], none⟩,
     ⟨(some 98), .mv, [.t 8], none⟩,
     ⟨(some 99), (.binI .sub), [.t 97, .t 98], none⟩,
     ⟨(some 100), .mv, [.t 16], none⟩,
     ⟨(some 101), (.binI .add), [.t 99, .t 100], none⟩,
     ⟨(some 102), (.binI .sub), [.t 101, .c (.i .i64 1)], none⟩,
     ⟨(some 103), .mv, [.t 16], none⟩,
     ⟨(some 104), (.binI .quo), [.t 102, .t 103], none⟩,
     ⟨(some 105), .mxI, [.t 91, .t 104], none⟩,
     ⟨(some 14), .mv, [.t 105], none⟩] [0, 1, 2, 8, 13, 14, 64, 65, 66, 73, 74])
   .skip)))))
 (.reg [⟨(some 106), (.binI .add), [.t 74, .c (.i .i64 1)], none⟩,
   ⟨(some 74), .mv, [.t 106], none⟩] [0, 1, 2, 8, 13, 14, 64, 65, 66, 73, 74]))))

def l88_5 : DC :=
 (.loop [0, 1, 2, 8, 13, 14, 64, 65, 66, 73, 74] b88_4)

def b88_6 : DC :=
 (.seq (.reg [⟨(some 67), (.binI .lss), [.t 66, .t 65], none⟩] [0, 1, 2, 8, 64, 65, 66, 67])
 (.seq (.cond (.t 67)
  .skip
  (.exit 4))
 (.seq (.block 5
  (.seq (.reg [⟨(some 68), (.ixS 1 false), [.t 64, .t 66], none⟩,
    ⟨(some 69), (.ld 1 false), [.t 68], none⟩,
    ⟨(some 13), .mv, [.t 69], none⟩] [0, 1, 2, 8, 13, 64, 65, 66])
  (.seq (.reg [⟨(some 14), .mv, [.c (.i .i64 1)], none⟩] [0, 1, 2, 8, 13, 14, 64, 65, 66])
  (.seq (.seq (.reg [⟨(some 70), .mv, [.t 0], none⟩,
    ⟨(some 71), .nilck, [.t 70], none⟩,
    ⟨(some 72), (.fadr 0 1 false), [.t 71], none⟩,
    ⟨(some 73), (.ld 1 false), [.t 72], none⟩,
    ⟨(some 74), .mv, [.c (.i .i64 0)], none⟩] [0, 1, 2, 8, 13, 14, 64, 65, 66, 73, 74])
  (.block 6
   l88_5))
  (.reg [⟨(some 107), .mv, [.t 1], none⟩,
    ⟨(some 108), .mv, [.t 13], none⟩,
    ⟨(some 109), .mv, [.t 1], none⟩,
    ⟨(some 110), .mv, [.t 13], none⟩,
    ⟨(some 111), .mv, [.t 8], none⟩,
    ⟨(some 112), .mv, [.t 14], none⟩,
    ⟨(some 113), .nilck, [.t 107], none⟩,
    ⟨(some 114), (.fadr 0 5 true), [.t 113], none⟩,
    ⟨(some 115), (.ixA 5 1 false), [.t 114, .t 108], none⟩,
    ⟨none, (.st 1), [.t 115, .t 111], none⟩,
    ⟨(some 116), .nilck, [.t 109], none⟩,
    ⟨(some 117), (.fadr 5 5 true), [.t 116], none⟩,
    ⟨(some 118), (.ixA 5 1 false), [.t 117, .t 110], none⟩,
    ⟨none, (.st 1), [.t 118, .t 112], none⟩] [0, 1, 2, 8, 64, 65, 66])))))
 (.reg [⟨(some 119), (.binI .add), [.t 66, .c (.i .i64 1)], none⟩,
   ⟨(some 66), .mv, [.t 119], none⟩] [0, 1, 2, 8, 64, 65, 66]))))

def l88_7 : DC :=
 (.loop [0, 1, 2, 8, 64, 65, 66] b88_6)

def c88 : DC :=
 (.seq (.reg [⟨(some 8), .mv, [.c (.i .i64 0)], none⟩] [0, 1, 2, 3, 8])
 (.seq (.seq (.reg [⟨(some 17), .mv, [.t 3], none⟩,
   ⟨(some 18), (.len 0), [.t 17], none⟩,
   ⟨(some 19), .mv, [.c (.i .i64 0)], none⟩] [0, 1, 2, 3, 8, 17, 18, 19])
 (.block 0
  l88_3))
 (.seq (.reg [⟨(some 64), .mv, [.t 3], none⟩,
   ⟨(some 65), (.len 0), [.t 64], none⟩,
   ⟨(some 66), .mv, [.c (.i .i64 0)], none⟩] [0, 1, 2, 8, 64, 65, 66])
 (.block 4
  l88_7))))

def d88 : DFun := ⟨4, 120, c88, []⟩

theorem ok88 : Fok Tryd.prog 88 d88 := ⟨Tryd.f88, Tryd.func88, by kernel_rfl, by kernel_rfl⟩

-- slices.Max[[]int64,int64]
def c90 : DC :=
 (.seq (.reg [⟨(some 6), .mv, [.c (.i .i64 0)], none⟩] [0, 1, 2])
 (.seq (.reg [⟨(some 7), .mv, [.t 0], none⟩,
   ⟨(some 8), .mv, [.t 1], none⟩,
   ⟨(some 9), .mv, [.t 2], none⟩,
   ⟨(some 10), .nilck, [.t 7], none⟩,
   ⟨(some 11), (.fadr 1 25 true), [.t 10], none⟩,
   ⟨(some 12), (.ixA 5 5 true), [.t 11, .t 8], none⟩,
   ⟨(some 13), (.ixA 5 1 false), [.t 12, .t 9], none⟩,
   ⟨(some 14), (.ld 1 false), [.t 13], none⟩,
   ⟨(some 15), .mv, [.t 0], none⟩,
   ⟨(some 16), .mv, [.t 1], none⟩,
   ⟨(some 17), .mv, [.t 1], none⟩,
   ⟨(some 18), .nilck, [.t 15], none⟩,
   ⟨(some 19), (.fadr 1 25 true), [.t 18], none⟩,
   ⟨(some 20), (.ixA 5 5 true), [.t 19, .t 16], none⟩,
   ⟨(some 21), (.ixA 5 1 false), [.t 20, .t 17], none⟩,
   ⟨(some 22), (.ld 1 false), [.t 21], none⟩,
   ⟨(some 23), (.binI .sub), [.t 14, .t 22], none⟩,
   ⟨(some 6), .mv, [.t 23], none⟩] [6])
 .ret))

def d90 : DFun := ⟨3, 24, c90, [.t 6]⟩

theorem ok90 : Fok Tryd.prog 90 d90 := ⟨Tryd.f90, Tryd.func90, by kernel_rfl, by kernel_rfl⟩

-- slices.ContainsFunc[[]int,int]
def c91 : DC :=
 (.seq (.reg [⟨(some 4), .mv, [.c (.b false)], none⟩] [0, 1])
 (.seq (.reg [⟨(some 5), .mv, [.t 0], none⟩,
   ⟨(some 6), .mv, [.t 1], none⟩,
   ⟨(some 7), (.call .sh), [.c (.fn 95 [] []), .t 5, .t 6], none⟩,
   ⟨(some 8), (.binI .geq), [.t 7, .c (.i .i64 0)], none⟩,
   ⟨(some 4), .mv, [.t 8], none⟩] [4])
 .ret))

def d91 : DFun := ⟨2, 9, c91, [.t 4]⟩

theorem ok91 : Fok Tryd.prog 91 d91 := ⟨Tryd.f91, Tryd.func91, by kernel_rfl, by kernel_rfl⟩

-- bibelot/price.are$1
def c92 : DC :=
 (.seq (.reg [⟨(some 4), .mv, [.c (.b false)], none⟩] [0, 1, 2])
 (.seq (.reg [⟨(some 5), .mv, [.t 0], none⟩,
   ⟨(some 6), (.ld 1 false), [.t 1], none⟩,
   ⟨(some 7), (.binI .lss), [.t 5, .t 6], none⟩,
   ⟨(some 8), .mv, [.t 7], none⟩,
   ⟨(some 9), .mv, [.t 0], (some (8, false))⟩,
   ⟨(some 10), (.ld 1 false), [.t 2], (some (8, false))⟩,
   ⟨(some 11), (.binI .gtr), [.t 9, .t 10], (some (8, false))⟩,
   ⟨(some 12), .pick, [.t 8, .c (.b true), .t 11], none⟩,
   ⟨(some 4), .mv, [.t 12], none⟩] [4])
 .ret))

def d92 : DFun := ⟨3, 13, c92, [.t 4]⟩

theorem ok92 : Fok Tryd.prog 92 d92 := ⟨Tryd.f92, Tryd.func92, by kernel_rfl, by kernel_rfl⟩

-- cmp.isNaN[int]
def c93 : DC :=
 (.seq (.reg [⟨(some 2), .mv, [.c (.b false)], none⟩] [0])
 (.seq (.reg [⟨(some 3), .mv, [.t 0], none⟩,
   ⟨(some 4), .mv, [.t 0], none⟩,
   ⟨(some 5), (.binI .neq), [.t 3, .t 4], none⟩,
   ⟨(some 2), .mv, [.t 5], none⟩] [2])
 .ret))

def d93 : DFun := ⟨1, 6, c93, [.t 2]⟩

theorem ok93 : Fok Tryd.prog 93 d93 := ⟨Tryd.f93, Tryd.func93, by kernel_rfl, by kernel_rfl⟩

-- slices.Index[[]int,int]
def b94_0 : DC :=
 (.seq (.reg [⟨(some 9), (.binI .lss), [.t 8, .t 7], none⟩] [0, 1, 7, 8, 9])
 (.seq (.cond (.t 9)
  .skip
  (.exit 0))
 (.seq (.block 1
  (.seq (.reg [⟨(some 10), .mv, [.t 8], none⟩,
    ⟨(some 5), .mv, [.t 10], none⟩] [0, 1, 5, 7, 8])
  (.seq (.reg [⟨(some 11), .mv, [.t 1], none⟩,
    ⟨(some 12), .mv, [.t 0], none⟩,
    ⟨(some 13), .mv, [.t 5], none⟩,
    ⟨(some 14), (.ixS 1 false), [.t 12, .t 13], none⟩,
    ⟨(some 15), (.ld 1 false), [.t 14], none⟩,
    ⟨(some 16), (.binI .eql), [.t 11, .t 15], none⟩] [0, 1, 5, 7, 8, 16])
  (.cond (.t 16)
   (.seq (.reg [⟨(some 17), .mv, [.t 5], none⟩,
     ⟨(some 4), .mv, [.t 17], none⟩] [4])
   .ret)
   .skip))))
 (.reg [⟨(some 18), (.binI .add), [.t 8, .c (.i .i64 1)], none⟩,
   ⟨(some 8), .mv, [.t 18], none⟩] [0, 1, 7, 8]))))

def l94_1 : DC :=
 (.loop [0, 1, 7, 8] b94_0)

def c94 : DC :=
 (.seq (.reg [⟨(some 4), .mv, [.c (.i .i64 0)], none⟩] [0, 1])
 (.seq (.seq (.reg [⟨(some 6), .mv, [.t 0], none⟩,
   ⟨(some 7), (.len 0), [.t 6], none⟩,
   ⟨(some 8), .mv, [.c (.i .i64 0)], none⟩] [0, 1, 7, 8])
 (.block 0
  l94_1))
 (.seq (.reg [⟨(some 4), .mv, [.c (.i .i64 (-1))], none⟩] [4])
 .ret)))

def d94 : DFun := ⟨2, 19, c94, [.t 4]⟩

theorem ok94 : Fok Tryd.prog 94 d94 := ⟨Tryd.f94, Tryd.func94, by kernel_rfl, by kernel_rfl⟩

-- slices.IndexFunc[[]int,int]
def b95_0 : DC :=
 (.seq (.reg [⟨(some 9), (.binI .lss), [.t 8, .t 7], none⟩] [0, 1, 7, 8, 9])
 (.seq (.cond (.t 9)
  .skip
  (.exit 0))
 (.seq (.block 1
  (.seq (.reg [⟨(some 10), .mv, [.t 8], none⟩,
    ⟨(some 5), .mv, [.t 10], none⟩] [0, 1, 5, 7, 8])
  (.seq (.reg [⟨(some 11), .mv, [.t 1], none⟩,
    ⟨(some 12), .mv, [.t 0], none⟩,
    ⟨(some 13), .mv, [.t 5], none⟩,
    ⟨(some 14), (.ixS 1 false), [.t 12, .t 13], none⟩,
    ⟨(some 15), (.ld 1 false), [.t 14], none⟩,
    ⟨(some 16), (.call .sh), [.t 11, .t 15], none⟩] [0, 1, 5, 7, 8, 16])
  (.cond (.t 16)
   (.seq (.reg [⟨(some 17), .mv, [.t 5], none⟩,
     ⟨(some 4), .mv, [.t 17], none⟩] [4])
   .ret)
   .skip))))
 (.reg [⟨(some 18), (.binI .add), [.t 8, .c (.i .i64 1)], none⟩,
   ⟨(some 8), .mv, [.t 18], none⟩] [0, 1, 7, 8]))))

def l95_1 : DC :=
 (.loop [0, 1, 7, 8] b95_0)

def c95 : DC :=
 (.seq (.reg [⟨(some 4), .mv, [.c (.i .i64 0)], none⟩] [0, 1])
 (.seq (.seq (.reg [⟨(some 6), .mv, [.t 0], none⟩,
   ⟨(some 7), (.len 0), [.t 6], none⟩,
   ⟨(some 8), .mv, [.c (.i .i64 0)], none⟩] [0, 1, 7, 8])
 (.block 0
  l95_1))
 (.seq (.reg [⟨(some 4), .mv, [.c (.i .i64 (-1))], none⟩] [4])
 .ret)))

def d95 : DFun := ⟨2, 19, c95, [.t 4]⟩

theorem ok95 : Fok Tryd.prog 95 d95 := ⟨Tryd.f95, Tryd.func95, by kernel_rfl, by kernel_rfl⟩

end Go.Proofs.Tryd.Dn

