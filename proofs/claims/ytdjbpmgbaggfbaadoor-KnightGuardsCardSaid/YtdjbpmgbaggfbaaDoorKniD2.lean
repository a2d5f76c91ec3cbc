import Derived.Test.YtdjbpmgbaggfbaaDoorProg
import Derived.Test.YtdjbpmgbaggfbaaDoorDc
set_option linter.unusedVariables false
set_option maxRecDepth 100000
namespace Go.Proofs.Tryd.Dn
open Go.Dn

-- slices.Grow[[]int,int]
def c97 : DC :=
 (.seq (.reg [⟨(some 4), .mv, [.c .nilsl], none⟩] [0, 1])
 (.seq (.seq (.reg [⟨(some 5), .mv, [.t 1], none⟩,
   ⟨(some 6), (.binI .lss), [.t 5, .c (.i .i64 0)], none⟩] [0, 1, 6])
 (.cond (.t 6)
  (.reg [⟨(some 7), .never, [], none⟩,
    ⟨none, .never, [], none⟩] [0, 1])
  .skip))
 (.seq (.seq (.reg [⟨(some 8), .mv, [.t 1], none⟩,
   ⟨(some 9), .mv, [.t 0], none⟩,
   ⟨(some 10), .cap, [.t 9], none⟩,
   ⟨(some 11), .mv, [.t 0], none⟩,
   ⟨(some 12), (.len 0), [.t 11], none⟩,
   ⟨(some 13), (.binI .sub), [.t 10, .t 12], none⟩,
   ⟨(some 14), (.binI .sub), [.t 8, .t 13], none⟩,
   ⟨(some 1), .mv, [.t 14], none⟩] [0, 1])
 (.seq (.reg [⟨(some 15), .mv, [.t 1], none⟩,
   ⟨(some 16), (.binI .gtr), [.t 15, .c (.i .i64 0)], none⟩] [0, 1, 16])
 (.cond (.t 16)
  (.reg [⟨(some 17), .mv, [.t 0], none⟩,
    ⟨(some 18), .mv, [.t 0], none⟩,
    ⟨(some 19), .cap, [.t 18], none⟩,
    ⟨(some 20), (.slc false true false 1 false), [.t 17, .t 19], none⟩,
    ⟨(some 21), .mv, [.t 1], none⟩,
    ⟨(some 22), (.appz [(.i .i64 0)] false 8), [.t 20, .t 21], none⟩,
    ⟨(some 23), .mv, [.t 0], none⟩,
    ⟨(some 24), (.len 0), [.t 23], none⟩,
    ⟨(some 25), (.slc false true false 1 false), [.t 22, .t 24], none⟩,
    ⟨(some 0), .mv, [.t 25], none⟩] [0])
  .skip)))
 (.seq (.reg [⟨(some 26), .mv, [.t 0], none⟩,
   ⟨(some 4), .mv, [.t 26], none⟩] [4])
 .ret))))

def d97 : DFun := ⟨2, 27, c97, [.t 4]⟩

theorem ok97 : Fok Tryd.prog 97 d97 := ⟨Tryd.f97, Tryd.func97, by kernel_rfl, by kernel_rfl⟩

-- slices.IndexFunc[[]int,int]
def b98_0 : DC :=
 (.seq (.reg [⟨(some 9), (.binI .lss), [.t 8, .t 7], none⟩] [0, 1, 7, 8, 9])
 (.seq (.cond (.t 9)
  .skip
  (.exit 0))
 (.seq (.block 1
  (.seq (.reg [⟨(some 10), .mv, [.t 8], none⟩,
    ⟨(some 5), .mv, [.t 10], none⟩] [0, 1, 5, 7, 8])
  (.seq (.reg [⟨(some 11), .mv, [.t 1], none⟩,
    ⟨(some 12), .mv, [.t 0], none⟩,
    ⟨(some 13), .mv, [.t 5], none⟩,
    ⟨(some 14), (.ixS 1 false), [.t 12, .t 13], none⟩,
    ⟨(some 15), (.ld 1 false), [.t 14], none⟩,
    ⟨(some 16), (.call .sh), [.t 11, .t 15], none⟩] [0, 1, 5, 7, 8, 16])
  (.cond (.t 16)
   (.seq (.reg [⟨(some 17), .mv, [.t 5], none⟩,
     ⟨(some 4), .mv, [.t 17], none⟩] [4])
   .ret)
   .skip))))
 (.reg [⟨(some 18), (.binI .add), [.t 8, .c (.i .i64 1)], none⟩,
   ⟨(some 8), .mv, [.t 18], none⟩] [0, 1, 7, 8]))))

def l98_1 : DC :=
 (.loop [0, 1, 7, 8] b98_0)

def c98 : DC :=
 (.seq (.reg [⟨(some 4), .mv, [.c (.i .i64 0)], none⟩] [0, 1])
 (.seq (.seq (.reg [⟨(some 6), .mv, [.t 0], none⟩,
   ⟨(some 7), (.len 0), [.t 6], none⟩,
   ⟨(some 8), .mv, [.c (.i .i64 0)], none⟩] [0, 1, 7, 8])
 (.block 0
  l98_1))
 (.seq (.reg [⟨(some 4), .mv, [.c (.i .i64 (-1))], none⟩] [4])
 .ret)))

def d98 : DFun := ⟨2, 19, c98, [.t 4]⟩

theorem ok98 : Fok Tryd.prog 98 d98 := ⟨Tryd.f98, Tryd.func98, by kernel_rfl, by kernel_rfl⟩

-- slices.stableCmpFunc[int]
def b99_0 : DC :=
 (.seq (.seq (.reg [⟨(some 11), .mv, [.t 8], none⟩,
   ⟨(some 12), .mv, [.t 1], none⟩,
   ⟨(some 13), (.binI .leq), [.t 11, .t 12], none⟩] [0, 1, 2, 6, 7, 8, 13])
 (.cond (.t 13)
  .skip
  (.exit 0)))
 (.block 1
  (.seq (.reg [⟨(some 14), .mv, [.t 0], none⟩,
    ⟨(some 15), .mv, [.t 7], none⟩,
    ⟨(some 16), .mv, [.t 8], none⟩,
    ⟨(some 17), .mv, [.t 2], none⟩,
    ⟨(some 18), (.call .sh), [.c (.fn 100 [] []), .t 14, .t 15, .t 16, .t 17], none⟩] [0, 1, 2, 6, 8])
  (.seq (.reg [⟨(some 19), .mv, [.t 8], none⟩,
    ⟨(some 7), .mv, [.t 19], none⟩] [0, 1, 2, 6, 7, 8])
  (.reg [⟨(some 20), .mv, [.t 8], none⟩,
    ⟨(some 21), .mv, [.t 6], none⟩,
    ⟨(some 22), (.binI .add), [.t 20, .t 21], none⟩,
    ⟨(some 8), .mv, [.t 22], none⟩] [0, 1, 2, 6, 7, 8])))))

def l99_1 : DC :=
 (.loop [0, 1, 2, 6, 7, 8] b99_0)

def b99_2 : DC :=
 (.seq (.seq (.reg [⟨(some 33), .mv, [.t 8], none⟩,
   ⟨(some 34), .mv, [.t 1], none⟩,
   ⟨(some 35), (.binI .leq), [.t 33, .t 34], none⟩] [0, 1, 2, 6, 7, 8, 35])
 (.cond (.t 35)
  .skip
  (.exit 4)))
 (.block 5
  (.seq (.reg [⟨(some 36), .mv, [.t 0], none⟩,
    ⟨(some 37), .mv, [.t 7], none⟩,
    ⟨(some 38), .mv, [.t 7], none⟩,
    ⟨(some 39), .mv, [.t 6], none⟩,
    ⟨(some 40), (.binI .add), [.t 38, .t 39], none⟩,
    ⟨(some 41), .mv, [.t 8], none⟩,
    ⟨(some 42), .mv, [.t 2], none⟩,
    ⟨(some 43), (.call .sh), [.c (.fn 101 [] []), .t 36, .t 37, .t 40, .t 41, .t 42], none⟩] [0, 1, 2, 6, 8])
  (.seq (.reg [⟨(some 44), .mv, [.t 8], none⟩,
    ⟨(some 7), .mv, [.t 44], none⟩] [0, 1, 2, 6, 7, 8])
  (.reg [⟨(some 45), .mv, [.t 8], none⟩,
    ⟨(some 46), .mv, [.t 6], none⟩,
    ⟨(some 47), (.binI .mul), [.c (.i .i64 2), .t 46], none⟩,
    ⟨(some 48), (.binI .add), [.t 45, .t 47], none⟩,
    ⟨(some 8), .mv, [.t 48], none⟩] [0, 1, 2, 6, 7, 8])))))

def l99_3 : DC :=
 (.loop [0, 1, 2, 6, 7, 8] b99_2)

def b99_4 : DC :=
 (.seq (.seq (.reg [⟨(some 28), .mv, [.t 6], none⟩,
   ⟨(some 29), .mv, [.t 1], none⟩,
   ⟨(some 30), (.binI .lss), [.t 28, .t 29], none⟩] [0, 1, 2, 6, 30])
 (.cond (.t 30)
  .skip
  (.exit 2)))
 (.block 3
  (.seq (.reg [⟨(some 31), .mv, [.t 6], none⟩,
    ⟨(some 32), (.binI .mul), [.c (.i .i64 2), .t 31], none⟩,
    ⟨(some 7), .mv, [.c (.i .i64 0)], none⟩,
    ⟨(some 8), .mv, [.t 32], none⟩] [0, 1, 2, 6, 7, 8])
  (.seq (.block 4
   l99_3)
  (.seq (.seq (.reg [⟨(some 49), .mv, [.t 7], none⟩,
    ⟨(some 50), .mv, [.t 6], none⟩,
    ⟨(some 51), (.binI .add), [.t 49, .t 50], none⟩,
    ⟨(some 9), .mv, [.t 51], none⟩] [0, 1, 2, 6, 7, 9])
  (.seq (.reg [⟨(some 52), .mv, [.t 9], none⟩,
    ⟨(some 53), .mv, [.t 1], none⟩,
    ⟨(some 54), (.binI .lss), [.t 52, .t 53], none⟩] [0, 1, 2, 6, 7, 9, 54])
  (.cond (.t 54)
   (.reg [⟨(some 55), .mv, [.t 0], none⟩,
     ⟨(some 56), .mv, [.t 7], none⟩,
     ⟨(some 57), .mv, [.t 9], none⟩,
     ⟨(some 58), .mv, [.t 1], none⟩,
     ⟨(some 59), .mv, [.t 2], none⟩,
     ⟨(some 60), (.call .sh), [.c (.fn 101 [] []), .t 55, .t 56, .t 57, .t 58, .t 59], none⟩] [0, 1, 2, 6])
   .skip)))
  (.reg [⟨(some 61), .mv, [.t 6], none⟩,
    ⟨(some 62), (.binI .mul), [.t 61, .c (.i .i64 2)], none⟩,
    ⟨(some 6), .mv, [.t 62], none⟩] [0, 1, 2, 6]))))))

def l99_5 : DC :=
 (.loop [0, 1, 2, 6] b99_4)

def c99 : DC :=
 (.seq (.reg [⟨(some 6), .mv, [.c (.i .i64 20)], none⟩] [0, 1, 2, 6])
 (.seq (.reg [⟨(some 10), .mv, [.t 6], none⟩,
   ⟨(some 7), .mv, [.c (.i .i64 0)], none⟩,
   ⟨(some 8), .mv, [.t 10], none⟩] [0, 1, 2, 6, 7, 8])
 (.seq (.block 0
  l99_1)
 (.seq (.reg [⟨(some 23), .mv, [.t 0], none⟩,
   ⟨(some 24), .mv, [.t 7], none⟩,
   ⟨(some 25), .mv, [.t 1], none⟩,
   ⟨(some 26), .mv, [.t 2], none⟩,
   ⟨(some 27), (.call .sh), [.c (.fn 100 [] []), .t 23, .t 24, .t 25, .t 26], none⟩] [0, 1, 2, 6])
 (.block 2
  l99_5)))))

def d99 : DFun := ⟨3, 63, c99, []⟩

theorem ok99 : Fok Tryd.prog 99 d99 := ⟨Tryd.f99, Tryd.func99, by kernel_rfl, by kernel_rfl⟩

-- slices.insertionSortCmpFunc[int]
def b100_0 : DC :=
 (.seq (.seq (.reg [⟨(some 18), .mv, [.t 9], none⟩,
   ⟨(some 19), .mv, [.t 1], none⟩,
   ⟨(some 20), (.binI .gtr), [.t 18, .t 19], none⟩,
   ⟨(some 21), .mv, [.t 20], none⟩,
   ⟨(some 22), .mv, [.t 3], (some (21, true))⟩,
   ⟨(some 23), .mv, [.t 0], (some (21, true))⟩,
   ⟨(some 24), .mv, [.t 9], (some (21, true))⟩,
   ⟨(some 25), (.ixS 1 false), [.t 23, .t 24], (some (21, true))⟩,
   ⟨(some 26), (.ld 1 false), [.t 25], (some (21, true))⟩,
   ⟨(some 27), .mv, [.t 0], (some (21, true))⟩,
   ⟨(some 28), .mv, [.t 9], (some (21, true))⟩,
   ⟨(some 29), (.binI .sub), [.t 28, .c (.i .i64 1)], (some (21, true))⟩,
   ⟨(some 30), (.ixS 1 false), [.t 27, .t 29], (some (21, true))⟩,
   ⟨(some 31), (.ld 1 false), [.t 30], (some (21, true))⟩,
   ⟨(some 32), (.call .sh), [.t 22, .t 26, .t 31], (some (21, true))⟩,
   ⟨(some 33), (.binI .lss), [.t 32, .c (.i .i64 0)], (some (21, true))⟩,
   ⟨(some 34), .pick, [.t 21, .t 33, .c (.b false)], none⟩] [0, 1, 2, 3, 8, 9, 34])
 (.cond (.t 34)
  .skip
  (.exit 2)))
 (.seq (.block 3
  (.reg [⟨(some 37), .mv, [.t 0], none⟩,
    ⟨(some 38), .mv, [.t 9], none⟩,
    ⟨(some 39), .mv, [.t 0], none⟩,
    ⟨(some 40), .mv, [.t 9], none⟩,
    ⟨(some 41), (.binI .sub), [.t 40, .c (.i .i64 1)], none⟩,
    ⟨(some 42), .mv, [.t 0], none⟩,
    ⟨(some 43), .mv, [.t 9], none⟩,
    ⟨(some 44), (.binI .sub), [.t 43, .c (.i .i64 1)], none⟩,
    ⟨(some 45), (.ixS 1 false), [.t 42, .t 44], none⟩,
    ⟨(some 46), (.ld 1 false), [.t 45], none⟩,
    ⟨(some 47), .mv, [.t 0], none⟩,
    ⟨(some 48), .mv, [.t 9], none⟩,
    ⟨(some 49), (.ixS 1 false), [.t 47, .t 48], none⟩,
    ⟨(some 50), (.ld 1 false), [.t 49], none⟩,
    ⟨(some 51), (.ixS 1 false), [.t 37, .t 38], none⟩,
    ⟨none, (.st 1), [.t 51, .t 46], none⟩,
    ⟨(some 52), (.ixS 1 false), [.t 39, .t 41], none⟩,
    ⟨none, (.st 1), [.t 52, .t 50], none⟩] [0, 1, 2, 3, 8, 9]))
 (.reg [⟨(some 35), .mv, [.t 9], none⟩,
   ⟨(some 36), (.binI .sub), [.t 35, .c (.i .i64 1)], none⟩,
   ⟨(some 9), .mv, [.t 36], none⟩] [0, 1, 2, 3, 8, 9])))

def l100_1 : DC :=
 (.loop [0, 1, 2, 3, 8, 9] b100_0)

def b100_2 : DC :=
 (.seq (.seq (.reg [⟨(some 12), .mv, [.t 8], none⟩,
   ⟨(some 13), .mv, [.t 2], none⟩,
   ⟨(some 14), (.binI .lss), [.t 12, .t 13], none⟩] [0, 1, 2, 3, 8, 14])
 (.cond (.t 14)
  .skip
  (.exit 0)))
 (.seq (.block 1
  (.seq (.reg [⟨(some 17), .mv, [.t 8], none⟩,
    ⟨(some 9), .mv, [.t 17], none⟩] [0, 1, 2, 3, 8, 9])
  (.block 2
   l100_1)))
 (.reg [⟨(some 15), .mv, [.t 8], none⟩,
   ⟨(some 16), (.binI .add), [.t 15, .c (.i .i64 1)], none⟩,
   ⟨(some 8), .mv, [.t 16], none⟩] [0, 1, 2, 3, 8])))

def l100_3 : DC :=
 (.loop [0, 1, 2, 3, 8] b100_2)

def c100 : DC :=
 (.seq (.reg [⟨(some 10), .mv, [.t 1], none⟩,
   ⟨(some 11), (.binI .add), [.t 10, .c (.i .i64 1)], none⟩,
   ⟨(some 8), .mv, [.t 11], none⟩] [0, 1, 2, 3, 8])
 (.block 0
  l100_3))

def d100 : DFun := ⟨4, 53, c100, []⟩

theorem ok100 : Fok Tryd.prog 100 d100 := ⟨Tryd.f100, Tryd.func100, by kernel_rfl, by kernel_rfl⟩

-- slices.symMergeCmpFunc[int]
def b101_0 : DC :=
 (.seq (.seq (.reg [⟨(some 31), .mv, [.t 10], none⟩,
   ⟨(some 32), .mv, [.t 11], none⟩,
   ⟨(some 33), (.binI .lss), [.t 31, .t 32], none⟩] [0, 1, 4, 10, 11, 33])
 (.cond (.t 33)
  .skip
  (.exit 0)))
 (.block 1
  (.seq (.reg [⟨(some 34), .mv, [.t 10], none⟩,
    ⟨(some 35), .mv, [.t 11], none⟩,
    ⟨(some 36), (.binI .add), [.t 34, .t 35], none⟩,
    ⟨(some 37), (.conv .u64), [.t 36], none⟩,
    ⟨(some 38), (.binI .shr), [.t 37, .c (.i .u64 1)], none⟩,
    ⟨(some 39), (.conv .i64), [.t 38], none⟩,
    ⟨(some 12), .mv, [.t 39], none⟩] [0, 1, 4, 10, 11, 12])
  (.seq (.reg [⟨(some 40), .mv, [.t 4], none⟩,
    ⟨(some 41), .mv, [.t 0], none⟩,
    ⟨(some 42), .mv, [.t 12], none⟩,
    ⟨(some 43), (.ixS 1 false), [.t 41, .t 42], none⟩,
    ⟨(some 44), (.ld 1 false), [.t 43], none⟩,
    ⟨(some 45), .mv, [.t 0], none⟩,
    ⟨(some 46), .mv, [.t 1], none⟩,
    ⟨(some 47), (.ixS 1 false), [.t 45, .t 46], none⟩,
    ⟨(some 48), (.ld 1 false), [.t 47], none⟩,
    ⟨(some 49), (.call .sh), [.t 40, .t 44, .t 48], none⟩,
    ⟨(some 50), (.binI .lss), [.t 49, .c (.i .i64 0)], none⟩] [0, 1, 4, 10, 11, 12, 50])
  (.cond (.t 50)
   (.reg [⟨(some 51), .mv, [.t 12], none⟩,
     ⟨(some 52), (.binI .add), [.t 51, .c (.i .i64 1)], none⟩,
     ⟨(some 10), .mv, [.t 52], none⟩] [0, 1, 4, 10, 11])
   (.reg [⟨(some 53), .mv, [.t 12], none⟩,
     ⟨(some 11), .mv, [.t 53], none⟩] [0, 1, 4, 10, 11]))))))

def l101_1 : DC :=
 (.loop [0, 1, 4, 10, 11] b101_0)

def b101_2 : DC :=
 (.seq (.seq (.reg [⟨(some 55), .mv, [.t 13], none⟩,
   ⟨(some 56), .mv, [.t 10], none⟩,
   ⟨(some 57), (.binI .sub), [.t 56, .c (.i .i64 1)], none⟩,
   ⟨(some 58), (.binI .lss), [.t 55, .t 57], none⟩] [0, 10, 13, 58])
 (.cond (.t 58)
  .skip
  (.exit 2)))
 (.seq (.block 3
  (.reg [⟨(some 61), .mv, [.t 0], none⟩,
    ⟨(some 62), .mv, [.t 13], none⟩,
    ⟨(some 63), .mv, [.t 0], none⟩,
    ⟨(some 64), .mv, [.t 13], none⟩,
    ⟨(some 65), (.binI .add), [.t 64, .c (.i .i64 1)], none⟩,
    ⟨(some 66), .mv, [.t 0], none⟩,
    ⟨(some 67), .mv, [.t 13], none⟩,
    ⟨(some 68), (.binI .add), [.t 67, .c (.i .i64 1)], none⟩,
    ⟨(some 69), (.ixS 1 false), [.t 66, .t 68], none⟩,
    ⟨(some 70), (.ld 1 false), [.t 69], none⟩,
    ⟨(some 71), .mv, [.t 0], none⟩,
    ⟨(some 72), .mv, [.t 13], none⟩,
    ⟨(some 73), (.ixS 1 false), [.t 71, .t 72], none⟩,
    ⟨(some 74), (.ld 1 false), [.t 73], none⟩,
    ⟨(some 75), (.ixS 1 false), [.t 61, .t 62], none⟩,
    ⟨none, (.st 1), [.t 75, .t 70], none⟩,
    ⟨(some 76), (.ixS 1 false), [.t 63, .t 65], none⟩,
    ⟨none, (.st 1), [.t 76, .t 74], none⟩] [0, 10, 13]))
 (.reg [⟨(some 59), .mv, [.t 13], none⟩,
   ⟨(some 60), (.binI .add), [.t 59, .c (.i .i64 1)], none⟩,
   ⟨(some 13), .mv, [.t 60], none⟩] [0, 10, 13])))

def l101_3 : DC :=
 (.loop [0, 10, 13] b101_2)

def b101_4 : DC :=
 (.seq (.seq (.reg [⟨(some 83), .mv, [.t 14], none⟩,
   ⟨(some 84), .mv, [.t 15], none⟩,
   ⟨(some 85), (.binI .lss), [.t 83, .t 84], none⟩] [0, 2, 4, 14, 15, 85])
 (.cond (.t 85)
  .skip
  (.exit 4)))
 (.block 5
  (.seq (.reg [⟨(some 86), .mv, [.t 14], none⟩,
    ⟨(some 87), .mv, [.t 15], none⟩,
    ⟨(some 88), (.binI .add), [.t 86, .t 87], none⟩,
    ⟨(some 89), (.conv .u64), [.t 88], none⟩,
    ⟨(some 90), (.binI .shr), [.t 89, .c (.i .u64 1)], none⟩,
    ⟨(some 91), (.conv .i64), [.t 90], none⟩,
    ⟨(some 16), .mv, [.t 91], none⟩] [0, 2, 4, 14, 15, 16])
  (.seq (.reg [⟨(some 92), .mv, [.t 4], none⟩,
    ⟨(some 93), .mv, [.t 0], none⟩,
    ⟨(some 94), .mv, [.t 2], none⟩,
    ⟨(some 95), (.ixS 1 false), [.t 93, .t 94], none⟩,
    ⟨(some 96), (.ld 1 false), [.t 95], none⟩,
    ⟨(some 97), .mv, [.t 0], none⟩,
    ⟨(some 98), .mv, [.t 16], none⟩,
    ⟨(some 99), (.ixS 1 false), [.t 97, .t 98], none⟩,
    ⟨(some 100), (.ld 1 false), [.t 99], none⟩,
    ⟨(some 101), (.call .sh), [.t 92, .t 96, .t 100], none⟩,
    ⟨(some 102), (.binI .lss), [.t 101, .c (.i .i64 0)], none⟩,
    ⟨(some 103), .notB, [.t 102], none⟩] [0, 2, 4, 14, 15, 16, 103])
  (.cond (.t 103)
   (.reg [⟨(some 104), .mv, [.t 16], none⟩,
     ⟨(some 105), (.binI .add), [.t 104, .c (.i .i64 1)], none⟩,
     ⟨(some 14), .mv, [.t 105], none⟩] [0, 2, 4, 14, 15])
   (.reg [⟨(some 106), .mv, [.t 16], none⟩,
     ⟨(some 15), .mv, [.t 106], none⟩] [0, 2, 4, 14, 15]))))))

def l101_5 : DC :=
 (.loop [0, 2, 4, 14, 15] b101_4)

def b101_6 : DC :=
 (.seq (.seq (.reg [⟨(some 108), .mv, [.t 17], none⟩,
   ⟨(some 109), .mv, [.t 14], none⟩,
   ⟨(some 110), (.binI .gtr), [.t 108, .t 109], none⟩] [0, 14, 17, 110])
 (.cond (.t 110)
  .skip
  (.exit 6)))
 (.seq (.block 7
  (.reg [⟨(some 113), .mv, [.t 0], none⟩,
    ⟨(some 114), .mv, [.t 17], none⟩,
    ⟨(some 115), .mv, [.t 0], none⟩,
    ⟨(some 116), .mv, [.t 17], none⟩,
    ⟨(some 117), (.binI .sub), [.t 116, .c (.i .i64 1)], none⟩,
    ⟨(some 118), .mv, [.t 0], none⟩,
    ⟨(some 119), .mv, [.t 17], none⟩,
    ⟨(some 120), (.binI .sub), [.t 119, .c (.i .i64 1)], none⟩,
    ⟨(some 121), (.ixS 1 false), [.t 118, .t 120], none⟩,
    ⟨(some 122), (.ld 1 false), [.t 121], none⟩,
    ⟨(some 123), .mv, [.t 0], none⟩,
    ⟨(some 124), .mv, [.t 17], none⟩,
    ⟨(some 125), (.ixS 1 false), [.t 123, .t 124], none⟩,
    ⟨(some 126), (.ld 1 false), [.t 125], none⟩,
    ⟨(some 127), (.ixS 1 false), [.t 113, .t 114], none⟩,
    ⟨none, (.st 1), [.t 127, .t 122], none⟩,
    ⟨(some 128), (.ixS 1 false), [.t 115, .t 117], none⟩,
    ⟨none, (.st 1), [.t 128, .t 126], none⟩] [0, 14, 17]))
 (.reg [⟨(some 111), .mv, [.t 17], none⟩,
   ⟨(some 112), (.binI .sub), [.t 111, .c (.i .i64 1)], none⟩,
   ⟨(some 17), .mv, [.t 112], none⟩] [0, 14, 17])))

def l101_7 : DC :=
 (.loop [0, 14, 17] b101_6)

def b101_8 : DC :=
 (.seq (.seq (.reg [⟨(some 149), .mv, [.t 20], none⟩,
   ⟨(some 150), .mv, [.t 21], none⟩,
   ⟨(some 151), (.binI .lss), [.t 149, .t 150], none⟩] [0, 1, 2, 3, 4, 18, 19, 20, 21, 22, 151])
 (.cond (.t 151)
  .skip
  (.exit 8)))
 (.block 9
  (.seq (.reg [⟨(some 152), .mv, [.t 20], none⟩,
    ⟨(some 153), .mv, [.t 21], none⟩,
    ⟨(some 154), (.binI .add), [.t 152, .t 153], none⟩,
    ⟨(some 155), (.conv .u64), [.t 154], none⟩,
    ⟨(some 156), (.binI .shr), [.t 155, .c (.i .u64 1)], none⟩,
    ⟨(some 157), (.conv .i64), [.t 156], none⟩,
    ⟨(some 23), .mv, [.t 157], none⟩] [0, 1, 2, 3, 4, 18, 19, 20, 21, 22, 23])
  (.seq (.reg [⟨(some 158), .mv, [.t 4], none⟩,
    ⟨(some 159), .mv, [.t 0], none⟩,
    ⟨(some 160), .mv, [.t 22], none⟩,
    ⟨(some 161), .mv, [.t 23], none⟩,
    ⟨(some 162), (.binI .sub), [.t 160, .t 161], none⟩,
    ⟨(some 163), (.ixS 1 false), [.t 159, .t 162], none⟩,
    ⟨(some 164), (.ld 1 false), [.t 163], none⟩,
    ⟨(some 165), .mv, [.t 0], none⟩,
    ⟨(some 166), .mv, [.t 23], none⟩,
    ⟨(some 167), (.ixS 1 false), [.t 165, .t 166], none⟩,
    ⟨(some 168), (.ld 1 false), [.t 167], none⟩,
    ⟨(some 169), (.call .sh), [.t 158, .t 164, .t 168], none⟩,
    ⟨(some 170), (.binI .lss), [.t 169, .c (.i .i64 0)], none⟩,
    ⟨(some 171), .notB, [.t 170], none⟩] [0, 1, 2, 3, 4, 18, 19, 20, 21, 22, 23, 171])
  (.cond (.t 171)
   (.reg [⟨(some 172), .mv, [.t 23], none⟩,
     ⟨(some 173), (.binI .add), [.t 172, .c (.i .i64 1)], none⟩,
     ⟨(some 20), .mv, [.t 173], none⟩] [0, 1, 2, 3, 4, 18, 19, 20, 21, 22])
   (.reg [⟨(some 174), .mv, [.t 23], none⟩,
     ⟨(some 21), .mv, [.t 174], none⟩] [0, 1, 2, 3, 4, 18, 19, 20, 21, 22]))))))

def l101_9 : DC :=
 (.loop [0, 1, 2, 3, 4, 18, 19, 20, 21, 22] b101_8)

def c101 : DC :=
 (.seq (.seq (.reg [⟨(some 25), .mv, [.t 2], none⟩,
   ⟨(some 26), .mv, [.t 1], none⟩,
   ⟨(some 27), (.binI .sub), [.t 25, .t 26], none⟩,
   ⟨(some 28), (.binI .eql), [.t 27, .c (.i .i64 1)], none⟩] [0, 1, 2, 3, 4, 28])
 (.cond (.t 28)
  (.seq (.reg [⟨(some 29), .mv, [.t 2], none⟩,
    ⟨(some 10), .mv, [.t 29], none⟩] [0, 1, 3, 4, 10])
  (.seq (.reg [⟨(some 30), .mv, [.t 3], none⟩,
    ⟨(some 11), .mv, [.t 30], none⟩] [0, 1, 4, 10, 11])
  (.seq (.block 0
   l101_1)
  (.seq (.seq (.reg [⟨(some 54), .mv, [.t 1], none⟩,
    ⟨(some 13), .mv, [.t 54], none⟩] [0, 10, 13])
  (.block 2
   l101_3))
  .ret))))
  .skip))
 (.seq (.seq (.reg [⟨(some 77), .mv, [.t 3], none⟩,
   ⟨(some 78), .mv, [.t 2], none⟩,
   ⟨(some 79), (.binI .sub), [.t 77, .t 78], none⟩,
   ⟨(some 80), (.binI .eql), [.t 79, .c (.i .i64 1)], none⟩] [0, 1, 2, 3, 4, 80])
 (.cond (.t 80)
  (.seq (.reg [⟨(some 81), .mv, [.t 1], none⟩,
    ⟨(some 14), .mv, [.t 81], none⟩] [0, 2, 4, 14])
  (.seq (.reg [⟨(some 82), .mv, [.t 2], none⟩,
    ⟨(some 15), .mv, [.t 82], none⟩] [0, 2, 4, 14, 15])
  (.seq (.block 4
   l101_5)
  (.seq (.seq (.reg [⟨(some 107), .mv, [.t 2], none⟩,
    ⟨(some 17), .mv, [.t 107], none⟩] [0, 14, 17])
  (.block 6
   l101_7))
  .ret))))
  .skip))
 (.seq (.reg [⟨(some 129), .mv, [.t 1], none⟩,
   ⟨(some 130), .mv, [.t 3], none⟩,
   ⟨(some 131), (.binI .add), [.t 129, .t 130], none⟩,
   ⟨(some 132), (.conv .u64), [.t 131], none⟩,
   ⟨(some 133), (.binI .shr), [.t 132, .c (.i .u64 1)], none⟩,
   ⟨(some 134), (.conv .i64), [.t 133], none⟩,
   ⟨(some 18), .mv, [.t 134], none⟩] [0, 1, 2, 3, 4, 18])
 (.seq (.reg [⟨(some 135), .mv, [.t 18], none⟩,
   ⟨(some 136), .mv, [.t 2], none⟩,
   ⟨(some 137), (.binI .add), [.t 135, .t 136], none⟩,
   ⟨(some 19), .mv, [.t 137], none⟩] [0, 1, 2, 3, 4, 18, 19])
 (.seq (.reg [⟨(some 20), .mv, [.c (.i .i64 0)], none⟩,
   ⟨(some 21), .mv, [.c (.i .i64 0)], none⟩] [0, 1, 2, 3, 4, 18, 19])
 (.seq (.seq (.reg [⟨(some 138), .mv, [.t 2], none⟩,
   ⟨(some 139), .mv, [.t 18], none⟩,
   ⟨(some 140), (.binI .gtr), [.t 138, .t 139], none⟩] [0, 1, 2, 3, 4, 18, 19, 140])
 (.cond (.t 140)
  (.seq (.reg [⟨(some 141), .mv, [.t 19], none⟩,
    ⟨(some 142), .mv, [.t 3], none⟩,
    ⟨(some 143), (.binI .sub), [.t 141, .t 142], none⟩,
    ⟨(some 20), .mv, [.t 143], none⟩] [0, 1, 2, 3, 4, 18, 19, 20])
  (.reg [⟨(some 144), .mv, [.t 18], none⟩,
    ⟨(some 21), .mv, [.t 144], none⟩] [0, 1, 2, 3, 4, 18, 19, 20, 21]))
  (.seq (.reg [⟨(some 145), .mv, [.t 1], none⟩,
    ⟨(some 20), .mv, [.t 145], none⟩] [0, 1, 2, 3, 4, 18, 19, 20])
  (.reg [⟨(some 146), .mv, [.t 2], none⟩,
    ⟨(some 21), .mv, [.t 146], none⟩] [0, 1, 2, 3, 4, 18, 19, 20, 21]))))
 (.seq (.reg [⟨(some 147), .mv, [.t 19], none⟩,
   ⟨(some 148), (.binI .sub), [.t 147, .c (.i .i64 1)], none⟩,
   ⟨(some 22), .mv, [.t 148], none⟩] [0, 1, 2, 3, 4, 18, 19, 20, 21, 22])
 (.seq (.block 8
  l101_9)
 (.seq (.reg [⟨(some 175), .mv, [.t 19], none⟩,
   ⟨(some 176), .mv, [.t 20], none⟩,
   ⟨(some 177), (.binI .sub), [.t 175, .t 176], none⟩,
   ⟨(some 24), .mv, [.t 177], none⟩] [0, 1, 2, 3, 4, 18, 20, 24])
 (.seq (.seq (.reg [⟨(some 178), .mv, [.t 20], none⟩,
   ⟨(some 179), .mv, [.t 2], none⟩,
   ⟨(some 180), (.binI .lss), [.t 178, .t 179], none⟩,
   ⟨(some 181), .mv, [.t 180], none⟩,
   ⟨(some 182), .mv, [.t 2], (some (181, true))⟩,
   ⟨(some 183), .mv, [.t 24], (some (181, true))⟩,
   ⟨(some 184), (.binI .lss), [.t 182, .t 183], (some (181, true))⟩,
   ⟨(some 185), .pick, [.t 181, .t 184, .c (.b false)], none⟩] [0, 1, 2, 3, 4, 18, 20, 24, 185])
 (.cond (.t 185)
  (.reg [⟨(some 186), .mv, [.t 0], none⟩,
    ⟨(some 187), .mv, [.t 20], none⟩,
    ⟨(some 188), .mv, [.t 2], none⟩,
    ⟨(some 189), .mv, [.t 24], none⟩,
    ⟨(some 190), .mv, [.t 4], none⟩,
    ⟨(some 191), (.call .sh), [.c (.fn 102 [] []), .t 186, .t 187, .t 188, .t 189, .t 190], none⟩] [0, 1, 3, 4, 18, 20, 24])
  .skip))
 (.seq (.seq (.reg [⟨(some 192), .mv, [.t 1], none⟩,
   ⟨(some 193), .mv, [.t 20], none⟩,
   ⟨(some 194), (.binI .lss), [.t 192, .t 193], none⟩,
   ⟨(some 195), .mv, [.t 194], none⟩,
   ⟨(some 196), .mv, [.t 20], (some (195, true))⟩,
   ⟨(some 197), .mv, [.t 18], (some (195, true))⟩,
   ⟨(some 198), (.binI .lss), [.t 196, .t 197], (some (195, true))⟩,
   ⟨(some 199), .pick, [.t 195, .t 198, .c (.b false)], none⟩] [0, 1, 3, 4, 18, 20, 24, 199])
 (.cond (.t 199)
  (.reg [⟨(some 200), .mv, [.t 0], none⟩,
    ⟨(some 201), .mv, [.t 1], none⟩,
    ⟨(some 202), .mv, [.t 20], none⟩,
    ⟨(some 203), .mv, [.t 18], none⟩,
    ⟨(some 204), .mv, [.t 4], none⟩,
    ⟨(some 205), (.call .sh), [.c (.fn 101 [] []), .t 200, .t 201, .t 202, .t 203, .t 204], none⟩] [0, 3, 4, 18, 24])
  .skip))
 (.seq (.reg [⟨(some 206), .mv, [.t 18], none⟩,
   ⟨(some 207), .mv, [.t 24], none⟩,
   ⟨(some 208), (.binI .lss), [.t 206, .t 207], none⟩,
   ⟨(some 209), .mv, [.t 208], none⟩,
   ⟨(some 210), .mv, [.t 24], (some (209, true))⟩,
   ⟨(some 211), .mv, [.t 3], (some (209, true))⟩,
   ⟨(some 212), (.binI .lss), [.t 210, .t 211], (some (209, true))⟩,
   ⟨(some 213), .pick, [.t 209, .t 212, .c (.b false)], none⟩] [0, 3, 4, 18, 24, 213])
 (.cond (.t 213)
  (.reg [⟨(some 214), .mv, [.t 0], none⟩,
    ⟨(some 215), .mv, [.t 18], none⟩,
    ⟨(some 216), .mv, [.t 24], none⟩,
    ⟨(some 217), .mv, [.t 3], none⟩,
    ⟨(some 218), .mv, [.t 4], none⟩,
    ⟨(some 219), (.call .sh), [.c (.fn 101 [] []), .t 214, .t 215, .t 216, .t 217, .t 218], none⟩] [])
  .skip)))))))))))))

def d101 : DFun := ⟨5, 220, c101, []⟩

theorem ok101 : Fok Tryd.prog 101 d101 := ⟨Tryd.f101, Tryd.func101, by kernel_rfl, by kernel_rfl⟩

-- slices.rotateCmpFunc[int]
def b102_0 : DC :=
 (.seq (.seq (.reg [⟨(some 18), .mv, [.t 10], none⟩,
   ⟨(some 19), .mv, [.t 11], none⟩,
   ⟨(some 20), (.binI .neq), [.t 18, .t 19], none⟩] [0, 2, 4, 10, 11, 20])
 (.cond (.t 20)
  .skip
  (.exit 0)))
 (.block 1
  (.seq (.reg [⟨(some 21), .mv, [.t 10], none⟩,
    ⟨(some 22), .mv, [.t 11], none⟩,
    ⟨(some 23), (.binI .gtr), [.t 21, .t 22], none⟩] [0, 2, 4, 10, 11, 23])
  (.cond (.t 23)
   (.seq (.reg [⟨(some 24), .mv, [.t 0], none⟩,
     ⟨(some 25), .mv, [.t 2], none⟩,
     ⟨(some 26), .mv, [.t 10], none⟩,
     ⟨(some 27), (.binI .sub), [.t 25, .t 26], none⟩,
     ⟨(some 28), .mv, [.t 2], none⟩,
     ⟨(some 29), .mv, [.t 11], none⟩,
     ⟨(some 30), .mv, [.t 4], none⟩,
     ⟨(some 31), (.call .sh), [.c (.fn 103 [] []), .t 24, .t 27, .t 28, .t 29, .t 30], none⟩] [0, 2, 4, 10, 11])
   (.reg [⟨(some 32), .mv, [.t 10], none⟩,
     ⟨(some 33), .mv, [.t 11], none⟩,
     ⟨(some 34), (.binI .sub), [.t 32, .t 33], none⟩,
     ⟨(some 10), .mv, [.t 34], none⟩] [0, 2, 4, 10, 11]))
   (.seq (.reg [⟨(some 35), .mv, [.t 0], none⟩,
     ⟨(some 36), .mv, [.t 2], none⟩,
     ⟨(some 37), .mv, [.t 10], none⟩,
     ⟨(some 38), (.binI .sub), [.t 36, .t 37], none⟩,
     ⟨(some 39), .mv, [.t 2], none⟩,
     ⟨(some 40), .mv, [.t 11], none⟩,
     ⟨(some 41), (.binI .add), [.t 39, .t 40], none⟩,
     ⟨(some 42), .mv, [.t 10], none⟩,
     ⟨(some 43), (.binI .sub), [.t 41, .t 42], none⟩,
     ⟨(some 44), .mv, [.t 10], none⟩,
     ⟨(some 45), .mv, [.t 4], none⟩,
     ⟨(some 46), (.call .sh), [.c (.fn 103 [] []), .t 35, .t 38, .t 43, .t 44, .t 45], none⟩] [0, 2, 4, 10, 11])
   (.reg [⟨(some 47), .mv, [.t 11], none⟩,
     ⟨(some 48), .mv, [.t 10], none⟩,
     ⟨(some 49), (.binI .sub), [.t 47, .t 48], none⟩,
     ⟨(some 11), .mv, [.t 49], none⟩] [0, 2, 4, 10, 11]))))))

def l102_1 : DC :=
 (.loop [0, 2, 4, 10, 11] b102_0)

def c102 : DC :=
 (.seq (.reg [⟨(some 12), .mv, [.t 2], none⟩,
   ⟨(some 13), .mv, [.t 1], none⟩,
   ⟨(some 14), (.binI .sub), [.t 12, .t 13], none⟩,
   ⟨(some 10), .mv, [.t 14], none⟩] [0, 2, 3, 4, 10])
 (.seq (.reg [⟨(some 15), .mv, [.t 3], none⟩,
   ⟨(some 16), .mv, [.t 2], none⟩,
   ⟨(some 17), (.binI .sub), [.t 15, .t 16], none⟩,
   ⟨(some 11), .mv, [.t 17], none⟩] [0, 2, 4, 10, 11])
 (.seq (.block 0
  l102_1)
 (.reg [⟨(some 50), .mv, [.t 0], none⟩,
   ⟨(some 51), .mv, [.t 2], none⟩,
   ⟨(some 52), .mv, [.t 10], none⟩,
   ⟨(some 53), (.binI .sub), [.t 51, .t 52], none⟩,
   ⟨(some 54), .mv, [.t 2], none⟩,
   ⟨(some 55), .mv, [.t 10], none⟩,
   ⟨(some 56), .mv, [.t 4], none⟩,
   ⟨(some 57), (.call .sh), [.c (.fn 103 [] []), .t 50, .t 53, .t 54, .t 55, .t 56], none⟩] []))))

def d102 : DFun := ⟨5, 58, c102, []⟩

theorem ok102 : Fok Tryd.prog 102 d102 := ⟨Tryd.f102, Tryd.func102, by kernel_rfl, by kernel_rfl⟩

-- slices.swapRangeCmpFunc[int]
def b103_0 : DC :=
 (.seq (.seq (.reg [⟨(some 11), .mv, [.t 10], none⟩,
   ⟨(some 12), .mv, [.t 3], none⟩,
   ⟨(some 13), (.binI .lss), [.t 11, .t 12], none⟩] [0, 1, 2, 3, 10, 13])
 (.cond (.t 13)
  .skip
  (.exit 0)))
 (.seq (.block 1
  (.reg [⟨(some 16), .mv, [.t 0], none⟩,
    ⟨(some 17), .mv, [.t 1], none⟩,
    ⟨(some 18), .mv, [.t 10], none⟩,
    ⟨(some 19), (.binI .add), [.t 17, .t 18], none⟩,
    ⟨(some 20), .mv, [.t 0], none⟩,
    ⟨(some 21), .mv, [.t 2], none⟩,
    ⟨(some 22), .mv, [.t 10], none⟩,
    ⟨(some 23), (.binI .add), [.t 21, .t 22], none⟩,
    ⟨(some 24), .mv, [.t 0], none⟩,
    ⟨(some 25), .mv, [.t 2], none⟩,
    ⟨(some 26), .mv, [.t 10], none⟩,
    ⟨(some 27), (.binI .add), [.t 25, .t 26], none⟩,
    ⟨(some 28), (.ixS 1 false), [.t 24, .t 27], none⟩,
    ⟨(some 29), (.ld 1 false), [.t 28], none⟩,
    ⟨(some 30), .mv, [.t 0], none⟩,
    ⟨(some 31), .mv, [.t 1], none⟩,
    ⟨(some 32), .mv, [.t 10], none⟩,
    ⟨(some 33), (.binI .add), [.t 31, .t 32], none⟩,
    ⟨(some 34), (.ixS 1 false), [.t 30, .t 33], none⟩,
    ⟨(some 35), (.ld 1 false), [.t 34], none⟩,
    ⟨(some 36), (.ixS 1 false), [.t 16, .t 19], none⟩,
    ⟨none, (.st 1), [.t 36, .t 29], none⟩,
    ⟨(some 37), (.ixS 1 false), [.t 20, .t 23], none⟩,
    ⟨none, (.st 1), [.t 37, .t 35], none⟩] [0, 1, 2, 3, 10]))
 (.reg [⟨(some 14), .mv, [.t 10], none⟩,
   ⟨(some 15), (.binI .add), [.t 14, .c (.i .i64 1)], none⟩,
   ⟨(some 10), .mv, [.t 15], none⟩] [0, 1, 2, 3, 10])))

def l103_1 : DC :=
 (.loop [0, 1, 2, 3, 10] b103_0)

def c103 : DC :=
 (.seq (.reg [⟨(some 10), .mv, [.c (.i .i64 0)], none⟩] [0, 1, 2, 3, 10])
 (.block 0
  l103_1))

def d103 : DFun := ⟨5, 38, c103, []⟩

theorem ok103 : Fok Tryd.prog 103 d103 := ⟨Tryd.f103, Tryd.func103, by kernel_rfl, by kernel_rfl⟩

end Go.Proofs.Tryd.Dn

