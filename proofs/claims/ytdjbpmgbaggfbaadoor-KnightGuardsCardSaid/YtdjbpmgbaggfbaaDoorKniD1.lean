import Derived.Test.YtdjbpmgbaggfbaaDoorProg
import Derived.Test.YtdjbpmgbaggfbaaDoorDc
set_option linter.unusedVariables false
set_option maxRecDepth 100000
namespace Go.Proofs.Tryd.Dn
open Go.Dn

-- bibelot/knight.Distance
def c29 : DC :=
 (.seq (.reg [⟨(some 8), .mv, [.c (.i .i64 0)], none⟩,
   ⟨(some 9), .mv, [.c (.b false)], none⟩,
   ⟨(some 10), .mv, [.c (.i .i64 0)], none⟩] [0, 1, 2, 3])
 (.seq (.reg [⟨(some 15), .mv, [.t 0], none⟩,
   ⟨(some 16), .mv, [.t 1], none⟩,
   ⟨(some 17), .mv, [.t 2], none⟩,
   ⟨(some 18), .mv, [.t 3], none⟩,
   ⟨(some 19), (.bsl false [(.i .i64 0)] false 2 [0, 1]), [.t 17, .t 18], none⟩,
   ⟨(some 20), (.call .sh), [.c (.fn 59 [] []), .t 15, .t 16, .t 19], none⟩,
   ⟨(some 14), .mv, [.t 20], none⟩,
   ⟨(some 21), (.ext 0), [.t 14], none⟩,
   ⟨(some 22), (.ext 1), [.t 14], none⟩,
   ⟨(some 11), .mv, [.t 21], none⟩,
   ⟨(some 12), .mv, [.t 22], none⟩] [2, 3, 11, 12])
 (.seq (.seq (.reg [⟨(some 23), .mv, [.t 12], none⟩,
   ⟨(some 24), (.binI .neq), [.t 23, .c (.i .i64 0)], none⟩] [2, 3, 11, 12, 24])
 (.cond (.t 24)
  (.seq (.reg [⟨(some 25), .mv, [.t 12], none⟩,
    ⟨(some 8), .mv, [.c (.i .i64 0)], none⟩,
    ⟨(some 9), .mv, [.c (.b false)], none⟩,
    ⟨(some 10), .mv, [.t 25], none⟩] [8, 9, 10])
  .ret)
  .skip))
 (.seq (.reg [⟨(some 26), .mv, [.t 11], none⟩,
   ⟨(some 27), .mv, [.t 2], none⟩,
   ⟨(some 28), .mv, [.t 3], none⟩,
   ⟨(some 29), (.call (.pu [])), [.c (.fn 65 [] []), .t 26, .t 27, .t 28], none⟩,
   ⟨(some 13), .mv, [.t 29], none⟩] [13])
 (.seq (.reg [⟨(some 30), .mv, [.t 13], none⟩,
   ⟨(some 31), (.len 0), [.t 30], none⟩,
   ⟨(some 32), (.binI .sub), [.t 31, .c (.i .i64 1)], none⟩,
   ⟨(some 33), .mxI, [.c (.i .i64 0), .t 32], none⟩,
   ⟨(some 34), .mv, [.t 13], none⟩,
   ⟨(some 35), (.eqN 0 true), [.t 34, .c .nilsl], none⟩,
   ⟨(some 8), .mv, [.t 33], none⟩,
   ⟨(some 9), .mv, [.t 35], none⟩,
   ⟨(some 10), .mv, [.c (.i .i64 0)], none⟩] [8, 9, 10])
 .ret)))))

def d29 : DFun := ⟨4, 36, c29, [.t 8, .t 9, .t 10]⟩

theorem ok29 : Fok Tryd.prog 29 d29 := ⟨Tryd.f29, Tryd.func29, by kernel_rfl, by kernel_rfl⟩

-- bibelot/knight.Way
def b38_0 : DC :=
 (.seq (.reg [⟨(some 27), (.binI .lss), [.t 26, .c (.i .i64 2)], none⟩] [8, 10, 26, 27])
 (.seq (.cond (.t 27)
  .skip
  (.exit 0))
 (.seq (.block 1
  (.seq (.reg [⟨(some 28), .mv, [.t 26], none⟩,
    ⟨(some 11), .mv, [.t 28], none⟩] [8, 10, 11, 26])
  (.seq (.reg [⟨(some 29), .mv, [.t 8], none⟩,
    ⟨(some 30), .mv, [.t 11], none⟩,
    ⟨(some 31), (.call (.pu [])), [.c (.fn 69 [] []), .t 29, .t 30], none⟩,
    ⟨(some 32), .mv, [.t 8], none⟩,
    ⟨(some 33), .mv, [.t 11], none⟩,
    ⟨(some 34), (.binI .sub), [.c (.i .i64 1), .t 33], none⟩,
    ⟨(some 35), (.call (.pu [])), [.c (.fn 69 [] []), .t 32, .t 34], none⟩,
    ⟨(some 12), .mv, [.t 31], none⟩,
    ⟨(some 13), .mv, [.t 35], none⟩] [8, 10, 12, 13, 26])
  (.seq (.seq (.reg [⟨(some 36), .mv, [.t 10], none⟩,
    ⟨(some 37), (.binI .eql), [.t 36, .c (.i .u64 0)], none⟩,
    ⟨(some 38), .mv, [.t 37], none⟩,
    ⟨(some 39), .mv, [.t 10], (some (38, false))⟩,
    ⟨(some 40), .mv, [.t 12], (some (38, false))⟩,
    ⟨(some 41), (.binI .andNot), [.t 39, .t 40], (some (38, false))⟩,
    ⟨(some 42), (.binI .neq), [.t 41, .c (.i .u64 0)], (some (38, false))⟩,
    ⟨(some 43), .pick, [.t 38, .c (.b true), .t 42], none⟩] [8, 10, 12, 13, 26, 43])
  (.cond (.t 43)
   (.exit 1)
   .skip))
  (.seq (.reg [⟨(some 44), .mv, [.t 8], none⟩,
    ⟨(some 45), .mv, [.t 10], none⟩,
    ⟨(some 46), (.call (.pu [])), [.c (.fn 71 [] []), .t 44, .t 45], none⟩,
    ⟨(some 47), (.call (.pu [])), [.c (.fn 70 [] []), .t 46], none⟩,
    ⟨(some 48), .mv, [.t 10], none⟩,
    ⟨(some 49), (.call (.pu [])), [.c (.fn 70 [] []), .t 48], none⟩,
    ⟨(some 50), (.binI .leq), [.t 47, .t 49], none⟩,
    ⟨(some 51), .mv, [.t 50], none⟩,
    ⟨(some 52), .mv, [.t 10], (some (51, true))⟩,
    ⟨(some 53), .mv, [.t 12], (some (51, true))⟩,
    ⟨(some 54), (.binI .neq), [.t 52, .t 53], (some (51, true))⟩,
    ⟨(some 55), .mv, [.t 54], (some (51, true))⟩,
    ⟨(some 56), .mv, [.t 13], (some (55, false))⟩,
    ⟨(some 57), (.call (.pu [])), [.c (.fn 70 [] []), .t 56], (some (55, false))⟩,
    ⟨(some 58), .mv, [.t 12], (some (55, false))⟩,
    ⟨(some 59), (.call (.pu [])), [.c (.fn 70 [] []), .t 58], (some (55, false))⟩,
    ⟨(some 60), (.binI .lss), [.t 57, .t 59], (some (55, false))⟩,
    ⟨(some 61), .pick, [.t 55, .c (.b true), .t 60], (some (51, true))⟩,
    ⟨(some 62), .pick, [.t 51, .t 61, .c (.b false)], none⟩,
    ⟨(some 6), .mv, [.t 62], none⟩,
    ⟨(some 7), .mv, [.c (.i .i64 0)], none⟩] [6, 7])
  .ret)))))
 (.reg [⟨(some 63), (.binI .add), [.t 26, .c (.i .i64 1)], none⟩,
   ⟨(some 26), .mv, [.t 63], none⟩] [8, 10, 26]))))

def l38_1 : DC :=
 (.loop [8, 10, 26] b38_0)

def c38 : DC :=
 (.seq (.reg [⟨(some 6), .mv, [.c (.b false)], none⟩,
   ⟨(some 7), .mv, [.c (.i .i64 0)], none⟩] [0, 1, 2])
 (.seq (.reg [⟨(some 15), .mv, [.t 0], none⟩,
   ⟨(some 16), .mv, [.t 1], none⟩,
   ⟨(some 17), .mv, [.t 2], none⟩,
   ⟨(some 18), (.call .sh), [.c (.fn 68 [] []), .t 15, .t 16, .t 17], none⟩,
   ⟨(some 14), .mv, [.t 18], none⟩,
   ⟨(some 19), (.ext 0), [.t 14], none⟩,
   ⟨(some 20), (.ext 1), [.t 14], none⟩,
   ⟨(some 8), .mv, [.t 19], none⟩,
   ⟨(some 9), .mv, [.t 20], none⟩] [2, 8, 9])
 (.seq (.seq (.reg [⟨(some 21), .mv, [.t 9], none⟩,
   ⟨(some 22), (.binI .neq), [.t 21, .c (.i .i64 0)], none⟩] [2, 8, 9, 22])
 (.cond (.t 22)
  (.seq (.reg [⟨(some 23), .mv, [.t 9], none⟩,
    ⟨(some 6), .mv, [.c (.b false)], none⟩,
    ⟨(some 7), .mv, [.t 23], none⟩] [6, 7])
  .ret)
  .skip))
 (.seq (.reg [⟨(some 24), .mv, [.t 2], none⟩,
   ⟨(some 25), (.conv .u64), [.t 24], none⟩,
   ⟨(some 10), .mv, [.t 25], none⟩] [8, 10])
 (.seq (.seq (.reg [⟨(some 26), .mv, [.c (.i .i64 0)], none⟩] [8, 10, 26])
 (.block 0
  l38_1))
 (.seq (.reg [⟨(some 6), .mv, [.c (.b false)], none⟩,
   ⟨(some 7), .mv, [.c (.i .i64 0)], none⟩] [6, 7])
 .ret))))))

def d38 : DFun := ⟨3, 64, c38, [.t 6, .t 7]⟩

theorem ok38 : Fok Tryd.prog 38 d38 := ⟨Tryd.f38, Tryd.func38, by kernel_rfl, by kernel_rfl⟩

-- bibelot/knight.IsQuiet
def a45_0 : DC :=
 (.reg [⟨(some 11), .mv, [.t 29], none⟩] [9, 10, 11])

def b45_1 : DC :=
 (.block 1
  (.seq (.reg [⟨(some 30), (.ld 1 false), [.t 9], none⟩,
    ⟨(some 31), .mv, [.t 11], none⟩,
    ⟨(some 32), .nilck, [.t 30], none⟩,
    ⟨(some 33), (.fadr 1 36 true), [.t 32], none⟩,
    ⟨(some 34), (.ixA 36 1 false), [.t 33, .t 31], none⟩,
    ⟨(some 35), (.ld 1 false), [.t 34], none⟩,
    ⟨(some 36), (.binI .lss), [.t 35, .c (.i .i64 0)], none⟩] [10, 11, 36])
  (.cond (.t 36)
   (.reg [⟨(some 37), (.ld 1 false), [.t 10], none⟩,
     ⟨(some 38), .mv, [.t 11], none⟩,
     ⟨(some 39), (.bsl false [(.i .i64 0)] false 1 [0]), [.t 38], none⟩,
     ⟨(some 40), (.app 1 false 8), [.t 37, .t 39], none⟩,
     ⟨none, (.st 1), [.t 10, .t 40], none⟩] [])
   .skip)))

def c45 : DC :=
 (.seq (.reg [⟨(some 4), .mv, [.c (.i .i64 0)], none⟩,
   ⟨(some 5), .mv, [.c (.i .i64 0)], none⟩,
   ⟨(some 6), .mv, [.c (.i .i64 0)], none⟩] [0, 1])
 (.seq (.reg [⟨(some 16), .mv, [.t 0], none⟩,
   ⟨(some 17), .mv, [.t 1], none⟩,
   ⟨(some 18), (.call .sh), [.c (.fn 59 [] []), .t 16, .t 17, .c .nilsl], none⟩,
   ⟨(some 15), .mv, [.t 18], none⟩,
   ⟨(some 19), (.ext 0), [.t 15], none⟩,
   ⟨(some 20), (.ext 1), [.t 15], none⟩,
   ⟨(some 7), .mv, [.t 19], none⟩,
   ⟨(some 8), .mv, [.t 20], none⟩] [7, 8])
 (.seq (.seq (.reg [⟨(some 21), .mv, [.t 8], none⟩,
   ⟨(some 22), (.binI .neq), [.t 21, .c (.i .i64 0)], none⟩] [7, 8, 22])
 (.cond (.t 22)
  (.seq (.reg [⟨(some 23), .mv, [.t 8], none⟩,
    ⟨(some 4), .mv, [.c (.i .i64 0)], none⟩,
    ⟨(some 5), .mv, [.c (.i .i64 0)], none⟩,
    ⟨(some 6), .mv, [.t 23], none⟩] [4, 5, 6])
  .ret)
  .skip))
 (.seq (.reg [⟨(some 24), .mv, [.t 7], none⟩,
   ⟨(some 25), (.call .sh), [.c (.fn 74 [] []), .t 24], none⟩,
   ⟨(some 9), (.alloc [.nilp] false), [], none⟩,
   ⟨none, (.st 1), [.t 9, .t 25], none⟩] [7, 9])
 (.seq (.reg [⟨(some 10), (.alloc [.nilsl] false), [], none⟩] [7, 9, 10])
 (.seq (.seq (.reg [⟨(some 26), .mv, [.t 7], none⟩,
   ⟨(some 27), (.call (.pu [])), [.c (.fn 69 [] []), .t 26, .c (.i .i64 0)], none⟩,
   ⟨(some 28), (.call .sh), [.c (.fn 63 [] []), .t 27], none⟩] [7, 9, 10, 28])
 (.block 0
  (.rfunc (.t 28) [29] a45_0
   b45_1 [7, 9, 10])))
 (.seq (.reg [⟨(some 42), (.ld 1 false), [.t 9], none⟩,
   ⟨(some 43), (.ld 1 false), [.t 10], none⟩,
   ⟨(some 44), (.call (.pu [])), [.c (.fn 75 [] []), .t 42, .t 43], none⟩,
   ⟨(some 41), .mv, [.t 44], none⟩,
   ⟨(some 45), (.ext 0), [.t 41], none⟩,
   ⟨(some 46), (.ext 1), [.t 41], none⟩,
   ⟨(some 12), .mv, [.t 45], none⟩,
   ⟨(some 13), .mv, [.t 46], none⟩] [7, 12, 13])
 (.seq (.reg [⟨(some 47), .mv, [.t 12], none⟩,
   ⟨(some 48), .mv, [.t 7], none⟩,
   ⟨(some 49), (.call (.pu [])), [.c (.fn 69 [] []), .t 48, .c (.i .i64 1)], none⟩,
   ⟨(some 50), .mv, [.t 13], none⟩,
   ⟨(some 51), (.binI .andNot), [.t 49, .t 50], none⟩,
   ⟨(some 52), (.binI .or), [.t 47, .t 51], none⟩,
   ⟨(some 14), .mv, [.t 52], none⟩] [14])
 (.seq (.reg [⟨(some 53), .mv, [.t 14], none⟩,
   ⟨(some 54), (.conv .i64), [.t 53], none⟩,
   ⟨(some 55), .mv, [.t 14], none⟩,
   ⟨(some 56), (.call (.pu [])), [.c (.fn 70 [] []), .t 55], none⟩,
   ⟨(some 4), .mv, [.t 54], none⟩,
   ⟨(some 5), .mv, [.t 56], none⟩,
   ⟨(some 6), .mv, [.c (.i .i64 0)], none⟩] [4, 5, 6])
 .ret)))))))))

def d45 : DFun := ⟨2, 57, c45, [.t 4, .t 5, .t 6]⟩

theorem ok45 : Fok Tryd.prog 45 d45 := ⟨Tryd.f45, Tryd.func45, by kernel_rfl, by kernel_rfl⟩

-- bibelot/knight.Pairing
def b48_0 : DC :=
 (.seq (.seq (.reg [⟨(some 5), .mv, [.t 0], none⟩,
   ⟨(some 6), .mv, [.t 4], none⟩,
   ⟨(some 7), (.binI .shr), [.t 5, .t 6], none⟩,
   ⟨(some 8), (.binI .gtr), [.t 7, .c (.i .i64 0)], none⟩] [0, 3, 4, 8])
 (.cond (.t 8)
  .skip
  (.exit 0)))
 (.seq (.block 1
  (.reg [⟨(some 11), .mv, [.t 3], none⟩,
    ⟨(some 12), .mv, [.t 0], none⟩,
    ⟨(some 13), .mv, [.t 4], none⟩,
    ⟨(some 14), (.binI .shr), [.t 12, .t 13], none⟩,
    ⟨(some 15), (.binI .rem), [.t 14, .c (.i .i64 2)], none⟩,
    ⟨(some 16), (.binI .add), [.t 11, .t 15], none⟩,
    ⟨(some 3), .mv, [.t 16], none⟩] [0, 3, 4]))
 (.reg [⟨(some 9), .mv, [.t 4], none⟩,
   ⟨(some 10), (.binI .add), [.t 9, .c (.i .i64 1)], none⟩,
   ⟨(some 4), .mv, [.t 10], none⟩] [0, 3, 4])))

def l48_1 : DC :=
 (.loop [0, 3, 4] b48_0)

def c48 : DC :=
 (.seq (.reg [⟨(some 2), .mv, [.c (.i .i64 0)], none⟩] [0])
 (.seq (.reg [⟨(some 3), .mv, [.c (.i .i64 0)], none⟩] [0, 3])
 (.seq (.seq (.reg [⟨(some 4), .mv, [.c (.i .i64 0)], none⟩] [0, 3, 4])
 (.block 0
  l48_1))
 (.seq (.reg [⟨(some 17), .mv, [.t 3], none⟩,
   ⟨(some 2), .mv, [.t 17], none⟩] [2])
 .ret))))

def d48 : DFun := ⟨1, 18, c48, [.t 2]⟩

theorem ok48 : Fok Tryd.prog 48 d48 := ⟨Tryd.f48, Tryd.func48, by kernel_rfl, by kernel_rfl⟩

-- bibelot/bibelotref06.IsPairing
def c54 : DC :=
 (.seq (.reg [⟨(some 4), .mv, [.c (.i .i64 0)], none⟩,
   ⟨(some 5), .mv, [.c (.i .i64 0)], none⟩,
   ⟨(some 6), .mv, [.c (.i .i64 0)], none⟩] [0, 1])
 (.seq (.reg [⟨(some 12), .mv, [.t 0], none⟩,
   ⟨(some 13), .mv, [.t 1], none⟩,
   ⟨(some 14), (.call .sh), [.c (.fn 59 [] []), .t 12, .t 13, .c .nilsl], none⟩,
   ⟨(some 11), .mv, [.t 14], none⟩,
   ⟨(some 15), (.ext 0), [.t 11], none⟩,
   ⟨(some 16), (.ext 1), [.t 11], none⟩,
   ⟨(some 7), (.alloc [.nilp] false), [], none⟩,
   ⟨none, (.st 1), [.t 7, .t 15], none⟩,
   ⟨(some 8), .mv, [.t 16], none⟩] [7, 8])
 (.seq (.seq (.reg [⟨(some 17), .mv, [.t 8], none⟩,
   ⟨(some 18), (.binI .neq), [.t 17, .c (.i .i64 0)], none⟩] [7, 8, 18])
 (.cond (.t 18)
  (.seq (.reg [⟨(some 19), .mv, [.t 8], none⟩,
    ⟨(some 4), .mv, [.c (.i .i64 0)], none⟩,
    ⟨(some 5), .mv, [.c (.i .i64 0)], none⟩,
    ⟨(some 6), .mv, [.t 19], none⟩] [4, 5, 6])
  .ret)
  .skip))
 (.seq (.seq (.reg [⟨(some 20), (.ld 1 false), [.t 7], none⟩,
   ⟨(some 21), .nilck, [.t 20], none⟩,
   ⟨(some 22), (.fadr 2 1 false), [.t 21], none⟩,
   ⟨(some 23), (.ld 1 false), [.t 22], none⟩,
   ⟨(some 24), (.binI .gtr), [.t 23, .c (.i .i64 20)], none⟩] [7, 24])
 (.cond (.t 24)
  (.seq (.reg [⟨(some 4), .mv, [.c (.i .i64 0)], none⟩,
    ⟨(some 5), .mv, [.c (.i .i64 0)], none⟩,
    ⟨(some 6), .mv, [.c (.i .i64 1)], none⟩] [4, 5, 6])
  .ret)
  .skip))
 (.seq (.reg [⟨(some 25), (.ld 1 false), [.t 7], none⟩,
   ⟨(some 26), (.call (.pu [])), [.c (.fn 81 [] []), .t 25], none⟩,
   ⟨(some 9), (.alloc [(.i .u64 0)] false), [], none⟩,
   ⟨none, (.st 1), [.t 9, .t 26], none⟩] [7, 9])
 (.seq (.reg [⟨(some 10), (.alloc [.nilfn] false), [], none⟩] [7, 9, 10])
 (.seq (.reg [⟨(some 27), (.mkfn 82 0), [.t 7, .t 9, .t 10], none⟩,
   ⟨none, (.st 1), [.t 10, .t 27], none⟩] [9, 10])
 (.seq (.reg [⟨(some 28), (.ld 1 false), [.t 10], none⟩,
   ⟨(some 29), (.call .sh), [.t 28, .c (.i .u64 0)], none⟩] [9])
 (.seq (.reg [⟨(some 30), (.ld 1 false), [.t 9], none⟩,
   ⟨(some 31), (.conv .i64), [.t 30], none⟩,
   ⟨(some 32), (.ld 1 false), [.t 9], none⟩,
   ⟨(some 33), (.call (.pu [])), [.c (.fn 70 [] []), .t 32], none⟩,
   ⟨(some 4), .mv, [.t 31], none⟩,
   ⟨(some 5), .mv, [.t 33], none⟩,
   ⟨(some 6), .mv, [.c (.i .i64 0)], none⟩] [4, 5, 6])
 .ret)))))))))

def d54 : DFun := ⟨2, 34, c54, [.t 4, .t 5, .t 6]⟩

theorem ok54 : Fok Tryd.prog 54 d54 := ⟨Tryd.f54, Tryd.func54, by kernel_rfl, by kernel_rfl⟩

-- bibelot/bibelotref06.IsGuard
def c55 : DC :=
 (.seq (.reg [⟨(some 6), .mv, [.c (.b false)], none⟩] [0, 1, 2])
 (.seq (.reg [⟨(some 7), .mv, [.t 0], none⟩,
   ⟨(some 8), .mv, [.t 1], none⟩,
   ⟨(some 9), .mv, [.t 2], none⟩,
   ⟨(some 10), (.call (.pu [])), [.c (.fn 67 [] []), .t 7, .t 8, .t 9], none⟩,
   ⟨(some 11), .mv, [.t 2], none⟩,
   ⟨(some 12), (.binI .or), [.t 10, .t 11], none⟩,
   ⟨(some 13), .mv, [.t 0], none⟩,
   ⟨(some 14), .mv, [.t 1], none⟩,
   ⟨(some 15), (.binI .mul), [.t 13, .t 14], none⟩,
   ⟨(some 16), (.binI .shl), [.c (.i .i64 1), .t 15], none⟩,
   ⟨(some 17), (.binI .sub), [.t 16, .c (.i .i64 1)], none⟩,
   ⟨(some 18), (.binI .eql), [.t 12, .t 17], none⟩,
   ⟨(some 6), .mv, [.t 18], none⟩] [6])
 .ret))

def d55 : DFun := ⟨3, 19, c55, [.t 6]⟩

theorem ok55 : Fok Tryd.prog 55 d55 := ⟨Tryd.f55, Tryd.func55, by kernel_rfl, by kernel_rfl⟩

-- bibelot/bibelotref06.Guards
def b56_0 : DC :=
 (.seq (.seq (.reg [⟨(some 19), .mv, [.t 7], none⟩,
   ⟨(some 20), .mv, [.t 5], none⟩,
   ⟨(some 21), (.binI .lss), [.t 19, .t 20], none⟩] [0, 1, 5, 6, 7, 21])
 (.cond (.t 21)
  .skip
  (.exit 0)))
 (.seq (.block 1
  (.reg [⟨(some 24), .mv, [.t 6], none⟩,
    ⟨(some 25), .mv, [.t 7], none⟩,
    ⟨(some 26), .mv, [.t 0], none⟩,
    ⟨(some 27), .mv, [.t 1], none⟩,
    ⟨(some 28), .mv, [.t 7], none⟩,
    ⟨(some 29), (.binI .shl), [.c (.i .i64 1), .t 28], none⟩,
    ⟨(some 30), (.call (.pu [])), [.c (.fn 67 [] []), .t 26, .t 27, .t 29], none⟩,
    ⟨(some 31), .mv, [.t 7], none⟩,
    ⟨(some 32), (.binI .shl), [.c (.i .i64 1), .t 31], none⟩,
    ⟨(some 33), (.binI .or), [.t 30, .t 32], none⟩,
    ⟨(some 34), (.ixS 1 false), [.t 24, .t 25], none⟩,
    ⟨none, (.st 1), [.t 34, .t 33], none⟩] [0, 1, 5, 6, 7]))
 (.reg [⟨(some 22), .mv, [.t 7], none⟩,
   ⟨(some 23), (.binI .add), [.t 22, .c (.i .i64 1)], none⟩,
   ⟨(some 7), .mv, [.t 23], none⟩] [0, 1, 5, 6, 7])))

def l56_1 : DC :=
 (.loop [0, 1, 5, 6, 7] b56_0)

def b56_2 : DC :=
 (.seq (.seq (.reg [⟨(some 42), .mv, [.t 12], none⟩,
   ⟨(some 43), .mv, [.t 5], none⟩,
   ⟨(some 44), (.binI .shl), [.c (.i .i64 1), .t 43], none⟩,
   ⟨(some 45), (.binI .lss), [.t 42, .t 44], none⟩] [5, 6, 8, 9, 10, 11, 12, 45])
 (.cond (.t 45)
  .skip
  (.exit 2)))
 (.seq (.block 3
  (.seq (.seq (.reg [⟨(some 48), .mv, [.t 12], none⟩,
    ⟨(some 49), .mv, [.t 11], none⟩,
    ⟨(some 50), (.binI .shl), [.c (.i .i64 2), .t 49], none⟩,
    ⟨(some 51), (.binI .geq), [.t 48, .t 50], none⟩] [5, 6, 8, 9, 10, 11, 12, 51])
  (.cond (.t 51)
   (.reg [⟨(some 52), .mv, [.t 11], none⟩,
     ⟨(some 53), (.binI .add), [.t 52, .c (.i .i64 1)], none⟩,
     ⟨(some 11), .mv, [.t 53], none⟩] [5, 6, 8, 9, 10, 11, 12])
   .skip))
  (.seq (.reg [⟨(some 54), .mv, [.t 12], none⟩,
    ⟨(some 55), .mv, [.t 11], none⟩,
    ⟨(some 56), (.binI .shl), [.c (.i .i64 1), .t 55], none⟩,
    ⟨(some 57), (.binI .sub), [.t 54, .t 56], none⟩,
    ⟨(some 13), .mv, [.t 57], none⟩] [5, 6, 8, 9, 10, 11, 12, 13])
  (.seq (.reg [⟨(some 58), .mv, [.t 8], none⟩,
    ⟨(some 59), .mv, [.t 12], none⟩,
    ⟨(some 60), .mv, [.t 8], none⟩,
    ⟨(some 61), .mv, [.t 13], none⟩,
    ⟨(some 62), (.ixS 1 false), [.t 60, .t 61], none⟩,
    ⟨(some 63), (.ld 1 false), [.t 62], none⟩,
    ⟨(some 64), .mv, [.t 6], none⟩,
    ⟨(some 65), .mv, [.t 11], none⟩,
    ⟨(some 66), (.ixS 1 false), [.t 64, .t 65], none⟩,
    ⟨(some 67), (.ld 1 false), [.t 66], none⟩,
    ⟨(some 68), (.binI .or), [.t 63, .t 67], none⟩,
    ⟨(some 69), (.ixS 1 false), [.t 58, .t 59], none⟩,
    ⟨none, (.st 1), [.t 69, .t 68], none⟩] [5, 6, 8, 9, 10, 11, 12, 13])
  (.seq (.reg [⟨(some 70), .mv, [.t 9], none⟩,
    ⟨(some 71), .mv, [.t 12], none⟩,
    ⟨(some 72), .mv, [.t 9], none⟩,
    ⟨(some 73), .mv, [.t 13], none⟩,
    ⟨(some 74), (.ixS 1 false), [.t 72, .t 73], none⟩,
    ⟨(some 75), (.ld 1 false), [.t 74], none⟩,
    ⟨(some 76), (.binI .add), [.t 75, .c (.i .i64 1)], none⟩,
    ⟨(some 77), (.ixS 1 false), [.t 70, .t 71], none⟩,
    ⟨none, (.st 1), [.t 77, .t 76], none⟩] [5, 6, 8, 9, 10, 11, 12])
  (.seq (.reg [⟨(some 78), .mv, [.t 8], none⟩,
    ⟨(some 79), .mv, [.t 12], none⟩,
    ⟨(some 80), (.ixS 1 false), [.t 78, .t 79], none⟩,
    ⟨(some 81), (.ld 1 false), [.t 80], none⟩,
    ⟨(some 82), .mv, [.t 5], none⟩,
    ⟨(some 83), (.binI .shl), [.c (.i .i64 1), .t 82], none⟩,
    ⟨(some 84), (.binI .sub), [.t 83, .c (.i .i64 1)], none⟩,
    ⟨(some 85), (.binI .eql), [.t 81, .t 84], none⟩] [5, 6, 8, 9, 10, 11, 12, 85])
  (.cond (.t 85)
   (.reg [⟨(some 86), .mv, [.t 10], none⟩,
     ⟨(some 87), .mv, [.t 9], none⟩,
     ⟨(some 88), .mv, [.t 12], none⟩,
     ⟨(some 89), (.ixS 1 false), [.t 87, .t 88], none⟩,
     ⟨(some 90), (.ld 1 false), [.t 89], none⟩,
     ⟨(some 91), .mnI, [.t 86, .t 90], none⟩,
     ⟨(some 10), .mv, [.t 91], none⟩] [5, 6, 8, 9, 10, 11, 12])
   .skip)))))))
 (.reg [⟨(some 46), .mv, [.t 12], none⟩,
   ⟨(some 47), (.binI .add), [.t 46, .c (.i .i64 1)], none⟩,
   ⟨(some 12), .mv, [.t 47], none⟩] [5, 6, 8, 9, 10, 11, 12])))

def l56_3 : DC :=
 (.loop [5, 6, 8, 9, 10, 11, 12] b56_2)

def c56 : DC :=
 (.seq (.reg [⟨(some 4), .mv, [.c (.i .i64 0)], none⟩] [0, 1])
 (.seq (.reg [⟨(some 14), .mv, [.t 0], none⟩,
   ⟨(some 15), .mv, [.t 1], none⟩,
   ⟨(some 16), (.binI .mul), [.t 14, .t 15], none⟩,
   ⟨(some 5), .mv, [.t 16], none⟩] [0, 1, 5])
 (.seq (.reg [⟨(some 17), .mv, [.t 5], none⟩,
   ⟨(some 18), (.mksl [(.i .i64 0)] false 8), [.t 17, .t 17], none⟩,
   ⟨(some 6), .mv, [.t 18], none⟩] [0, 1, 5, 6])
 (.seq (.seq (.reg [⟨(some 7), .mv, [.c (.i .i64 0)], none⟩] [0, 1, 5, 6, 7])
 (.block 0
  l56_1))
 (.seq (.reg [⟨(some 35), .mv, [.t 5], none⟩,
   ⟨(some 36), (.binI .shl), [.c (.i .i64 1), .t 35], none⟩,
   ⟨(some 37), (.mksl [(.i .i64 0)] false 8), [.t 36, .t 36], none⟩,
   ⟨(some 38), .mv, [.t 5], none⟩,
   ⟨(some 39), (.binI .shl), [.c (.i .i64 1), .t 38], none⟩,
   ⟨(some 40), (.mksl [(.i .i64 0)] false 8), [.t 39, .t 39], none⟩,
   ⟨(some 8), .mv, [.t 37], none⟩,
   ⟨(some 9), .mv, [.t 40], none⟩] [5, 6, 8, 9])
 (.seq (.reg [⟨(some 41), .mv, [.t 5], none⟩,
   ⟨(some 10), .mv, [.t 41], none⟩,
   ⟨(some 11), .mv, [.c (.i .i64 0)], none⟩] [5, 6, 8, 9, 10, 11])
 (.seq (.seq (.reg [⟨(some 12), .mv, [.c (.i .i64 1)], none⟩] [5, 6, 8, 9, 10, 11, 12])
 (.block 2
  l56_3))
 (.seq (.reg [⟨(some 92), .mv, [.t 10], none⟩,
   ⟨(some 4), .mv, [.t 92], none⟩] [4])
 .ret))))))))

def d56 : DFun := ⟨2, 93, c56, [.t 4]⟩

theorem ok56 : Fok Tryd.prog 56 d56 := ⟨Tryd.f56, Tryd.func56, by kernel_rfl, by kernel_rfl⟩

-- bibelot/bibelotref06.Board
def c58 : DC :=
 (.seq (.reg [⟨(some 4), .mv, [.c (.i .i64 0)], none⟩] [0, 1])
 (.seq (.reg [⟨(some 8), .mv, [.t 0], none⟩,
   ⟨(some 9), .mv, [.t 1], none⟩,
   ⟨(some 10), (.call .sh), [.c (.fn 59 [] []), .t 8, .t 9, .c .nilsl], none⟩,
   ⟨(some 7), .mv, [.t 10], none⟩,
   ⟨(some 11), (.ext 0), [.t 7], none⟩,
   ⟨(some 12), (.ext 1), [.t 7], none⟩,
   ⟨(some 5), .mv, [.t 11], none⟩,
   ⟨(some 6), .mv, [.t 12], none⟩] [6])
 (.seq (.reg [⟨(some 13), .mv, [.t 6], none⟩,
   ⟨(some 4), .mv, [.t 13], none⟩] [4])
 .ret)))

def d58 : DFun := ⟨2, 14, c58, [.t 4]⟩

theorem ok58 : Fok Tryd.prog 58 d58 := ⟨Tryd.f58, Tryd.func58, by kernel_rfl, by kernel_rfl⟩

-- bibelot/knight.open
def b59_0 : DC :=
 (.seq (.reg [⟨(some 61), (.binI .lss), [.t 60, .t 59], none⟩] [0, 1, 2, 8, 9, 11, 42, 43, 48, 49, 50, 58, 59, 60, 61])
 (.seq (.cond (.t 61)
  .skip
  (.exit 4))
 (.seq (.block 5
  (.seq (.reg [⟨(some 62), (.ixS 2 true), [.t 58, .t 60], none⟩,
    ⟨(some 63), (.ld 2 true), [.t 62], none⟩,
    ⟨(some 13), (.alloc [(.i .i64 0), (.i .i64 0)] true), [], none⟩,
    ⟨none, (.st 2), [.t 13, .t 63], none⟩] [0, 1, 2, 8, 9, 11, 13, 42, 43, 48, 49, 50, 58, 59, 60])
  (.seq (.reg [⟨(some 64), .mv, [.t 9], none⟩,
    ⟨(some 65), .mv, [.t 1], none⟩,
    ⟨(some 66), (.binI .quo), [.t 64, .t 65], none⟩,
    ⟨(some 67), (.ixA 2 1 false), [.t 11, .c (.i .i64 0)], none⟩,
    ⟨(some 68), (.ld 1 false), [.t 67], none⟩,
    ⟨(some 69), (.ixA 2 1 false), [.t 13, .c (.i .i64 0)], none⟩,
    ⟨(some 70), (.ld 1 false), [.t 69], none⟩,
    ⟨(some 71), (.binI .mul), [.t 68, .t 70], none⟩,
    ⟨(some 72), (.binI .add), [.t 66, .t 71], none⟩,
    ⟨(some 73), .mv, [.t 9], none⟩,
    ⟨(some 74), .mv, [.t 1], none⟩,
    ⟨(some 75), (.binI .rem), [.t 73, .t 74], none⟩,
    ⟨(some 76), (.ixA 2 1 false), [.t 11, .c (.i .i64 1)], none⟩,
    ⟨(some 77), (.ld 1 false), [.t 76], none⟩,
    ⟨(some 78), (.ixA 2 1 false), [.t 13, .c (.i .i64 1)], none⟩,
    ⟨(some 79), (.ld 1 false), [.t 78], none⟩,
    ⟨(some 80), (.binI .mul), [.t 77, .t 79], none⟩,
    ⟨(some 81), (.binI .add), [.t 75, .t 80], none⟩,
    ⟨(some 14), .mv, [.t 72], none⟩,
    ⟨(some 15), .mv, [.t 81], none⟩] [0, 1, 2, 8, 9, 11, 14, 15, 42, 43, 48, 49, 50, 58, 59, 60])
  (.seq (.reg [⟨(some 82), .mv, [.t 14], none⟩,
    ⟨(some 83), (.binI .geq), [.t 82, .c (.i .i64 0)], none⟩,
    ⟨(some 84), .mv, [.t 83], none⟩,
    ⟨(some 85), .mv, [.t 14], (some (84, true))⟩,
    ⟨(some 86), .mv, [.t 0], (some (84, true))⟩,
    ⟨(some 87), (.binI .lss), [.t 85, .t 86], (some (84, true))⟩,
    ⟨(some 88), .pick, [.t 84, .t 87, .c (.b false)], none⟩,
    ⟨(some 89), .mv, [.t 88], none⟩,
    ⟨(some 90), .mv, [.t 15], (some (89, true))⟩,
    ⟨(some 91), (.binI .geq), [.t 90, .c (.i .i64 0)], (some (89, true))⟩,
    ⟨(some 92), .pick, [.t 89, .t 91, .c (.b false)], none⟩,
    ⟨(some 93), .mv, [.t 92], none⟩,
    ⟨(some 94), .mv, [.t 15], (some (93, true))⟩,
    ⟨(some 95), .mv, [.t 1], (some (93, true))⟩,
    ⟨(some 96), (.binI .lss), [.t 94, .t 95], (some (93, true))⟩,
    ⟨(some 97), .pick, [.t 93, .t 96, .c (.b false)], none⟩] [0, 1, 2, 8, 9, 11, 14, 15, 42, 43, 48, 49, 50, 58, 59, 60, 97])
  (.cond (.t 97)
   (.reg [⟨(some 98), (.ld 1 false), [.t 8], none⟩,
     ⟨(some 99), .mv, [.t 9], none⟩,
     ⟨(some 100), .nilck, [.t 98], none⟩,
     ⟨(some 101), (.fadr 3 36 true), [.t 100], none⟩,
     ⟨(some 102), (.ixA 36 1 false), [.t 101, .t 99], none⟩,
     ⟨(some 103), (.ld 1 false), [.t 102], none⟩,
     ⟨(some 104), .mv, [.t 14], none⟩,
     ⟨(some 105), .mv, [.t 1], none⟩,
     ⟨(some 106), (.binI .mul), [.t 104, .t 105], none⟩,
     ⟨(some 107), .mv, [.t 15], none⟩,
     ⟨(some 108), (.binI .add), [.t 106, .t 107], none⟩,
     ⟨(some 109), (.conv .u64), [.t 108], none⟩,
     ⟨(some 110), (.binI .shl), [.c (.i .u64 1), .t 109], none⟩,
     ⟨(some 111), (.binI .or), [.t 103, .t 110], none⟩,
     ⟨(some 112), .nilck, [.t 98], none⟩,
     ⟨(some 113), (.fadr 3 36 true), [.t 112], none⟩,
     ⟨(some 114), (.ixA 36 1 false), [.t 113, .t 99], none⟩,
     ⟨none, (.st 1), [.t 114, .t 111], none⟩] [0, 1, 2, 8, 9, 11, 42, 43, 48, 49, 50, 58, 59, 60])
   .skip)))))
 (.reg [⟨(some 115), (.binI .add), [.t 60, .c (.i .i64 1)], none⟩,
   ⟨(some 60), .mv, [.t 115], none⟩] [0, 1, 2, 8, 9, 11, 42, 43, 48, 49, 50, 58, 59, 60]))))

def l59_1 : DC :=
 (.loop [0, 1, 2, 8, 9, 11, 42, 43, 48, 49, 50, 58, 59, 60] b59_0)

def b59_2 : DC :=
 (.seq (.reg [⟨(some 51), (.binI .lss), [.t 50, .t 49], none⟩] [0, 1, 2, 8, 9, 42, 43, 48, 49, 50, 51])
 (.seq (.cond (.t 51)
  .skip
  (.exit 2))
 (.seq (.block 3
  (.seq (.reg [⟨(some 52), (.ixS 2 true), [.t 48, .t 50], none⟩,
    ⟨(some 53), (.ld 2 true), [.t 52], none⟩,
    ⟨(some 11), (.alloc [(.i .i64 0), (.i .i64 0)] true), [], none⟩,
    ⟨none, (.st 2), [.t 11, .t 53], none⟩] [0, 1, 2, 8, 9, 11, 42, 43, 48, 49, 50])
  (.seq (.reg [⟨(some 54), (.build [(.i .i64 0), (.i .i64 0)] [(0, 1), (1, 1)]), [.c (.i .i64 1), .c (.i .i64 1)], none⟩,
    ⟨(some 55), (.build [(.i .i64 0), (.i .i64 0)] [(0, 1), (1, 1)]), [.c (.i .i64 1), .c (.i .i64 (-1))], none⟩,
    ⟨(some 56), (.build [(.i .i64 0), (.i .i64 0)] [(0, 1), (1, 1)]), [.c (.i .i64 (-1)), .c (.i .i64 1)], none⟩,
    ⟨(some 57), (.build [(.i .i64 0), (.i .i64 0)] [(0, 1), (1, 1)]), [.c (.i .i64 (-1)), .c (.i .i64 (-1))], none⟩,
    ⟨(some 58), (.bsl false [(.i .i64 0), (.i .i64 0)] true 4 [0, 1, 2, 3]), [.t 54, .t 55, .t 56, .t 57], none⟩,
    ⟨(some 59), (.len 0), [.t 58], none⟩,
    ⟨(some 60), .mv, [.c (.i .i64 0)], none⟩] [0, 1, 2, 8, 9, 11, 42, 43, 48, 49, 50, 58, 59, 60])
  (.block 4
   l59_1))))
 (.reg [⟨(some 116), (.binI .add), [.t 50, .c (.i .i64 1)], none⟩,
   ⟨(some 50), .mv, [.t 116], none⟩] [0, 1, 2, 8, 9, 42, 43, 48, 49, 50]))))

def l59_3 : DC :=
 (.loop [0, 1, 2, 8, 9, 42, 43, 48, 49, 50] b59_2)

def b59_4 : DC :=
 (.seq (.reg [⟨(some 44), (.binI .lss), [.t 43, .t 42], none⟩] [0, 1, 2, 8, 42, 43, 44])
 (.seq (.cond (.t 44)
  .skip
  (.exit 0))
 (.seq (.block 1
  (.seq (.reg [⟨(some 45), .mv, [.t 43], none⟩,
    ⟨(some 9), .mv, [.t 45], none⟩] [0, 1, 2, 8, 9, 42, 43])
  (.seq (.reg [⟨(some 46), (.build [(.i .i64 0), (.i .i64 0)] [(0, 1), (1, 1)]), [.c (.i .i64 1), .c (.i .i64 2)], none⟩,
    ⟨(some 47), (.build [(.i .i64 0), (.i .i64 0)] [(0, 1), (1, 1)]), [.c (.i .i64 2), .c (.i .i64 1)], none⟩,
    ⟨(some 48), (.bsl false [(.i .i64 0), (.i .i64 0)] true 2 [0, 1]), [.t 46, .t 47], none⟩,
    ⟨(some 49), (.len 0), [.t 48], none⟩,
    ⟨(some 50), .mv, [.c (.i .i64 0)], none⟩] [0, 1, 2, 8, 9, 42, 43, 48, 49, 50])
  (.block 2
   l59_3))))
 (.reg [⟨(some 117), (.binI .add), [.t 43, .c (.i .i64 1)], none⟩,
   ⟨(some 43), .mv, [.t 117], none⟩] [0, 1, 2, 8, 42, 43]))))

def l59_5 : DC :=
 (.loop [0, 1, 2, 8, 42, 43] b59_4)

def c59 : DC :=
 (.seq (.reg [⟨(some 6), .mv, [.c .nilp], none⟩,
   ⟨(some 7), .mv, [.c (.i .i64 0)], none⟩] [0, 1, 2])
 (.seq (.seq (.reg [⟨(some 16), .mv, [.t 0], none⟩,
   ⟨(some 17), .mv, [.t 1], none⟩,
   ⟨(some 18), .mnI, [.t 16, .t 17], none⟩,
   ⟨(some 19), (.binI .lss), [.t 18, .c (.i .i64 1)], none⟩,
   ⟨(some 20), .mv, [.t 19], none⟩,
   ⟨(some 21), .mv, [.t 0], (some (20, false))⟩,
   ⟨(some 22), .mv, [.t 1], (some (20, false))⟩,
   ⟨(some 23), .mxI, [.t 21, .t 22], (some (20, false))⟩,
   ⟨(some 24), (.binI .gtr), [.t 23, .c (.i .i64 8)], (some (20, false))⟩,
   ⟨(some 25), .pick, [.t 20, .c (.b true), .t 24], none⟩,
   ⟨(some 26), .mv, [.t 25], none⟩,
   ⟨(some 27), .mv, [.t 0], (some (26, false))⟩,
   ⟨(some 28), .mv, [.t 1], (some (26, false))⟩,
   ⟨(some 29), (.binI .mul), [.t 27, .t 28], (some (26, false))⟩,
   ⟨(some 30), (.binI .gtr), [.t 29, .c (.i .i64 36)], (some (26, false))⟩,
   ⟨(some 31), .pick, [.t 26, .c (.b true), .t 30], none⟩] [0, 1, 2, 31])
 (.cond (.t 31)
  (.seq (.reg [⟨(some 6), .mv, [.c .nilp], none⟩,
    ⟨(some 7), .mv, [.c (.i .i64 1)], none⟩] [6, 7])
  .ret)
  .skip))
 (.seq (.reg [⟨(some 32), .mv, [.t 0], none⟩,
   ⟨(some 33), .mv, [.t 1], none⟩,
   ⟨(some 34), .mv, [.t 0], none⟩,
   ⟨(some 35), .mv, [.t 1], none⟩,
   ⟨(some 36), (.binI .mul), [.t 34, .t 35], none⟩,
   ⟨(some 37), (.build [(.i .i64 0), (.i .i64 0), (.i .i64 0), (.i .u64 0), (.i .u64 0), (.i .u64 0), (.i .u64 0), (.i .u64 0), (.i .u64 0), (.i .u64 0), (.i .u64 0), (.i .u64 0), (.i .u64 0), (.i .u64 0), (.i .u64 0), (.i .u64 0), (.i .u64 0), (.i .u64 0), (.i .u64 0), (.i .u64 0), (.i .u64 0), (.i .u64 0), (.i .u64 0), (.i .u64 0), (.i .u64 0), (.i .u64 0), (.i .u64 0), (.i .u64 0), (.i .u64 0), (.i .u64 0), (.i .u64 0), (.i .u64 0), (.i .u64 0), (.i .u64 0), (.i .u64 0), (.i .u64 0), (.i .u64 0), (.i .u64 0), (.i .u64 0)] [(0, 1), (1, 1), (2, 1)]), [.t 32, .t 33, .t 36], none⟩,
   ⟨(some 38), (.box true), [.t 37], none⟩,
   ⟨(some 8), (.alloc [.nilp] false), [], none⟩,
   ⟨none, (.st 1), [.t 8, .t 38], none⟩] [0, 1, 2, 8])
 (.seq (.seq (.reg [⟨(some 39), (.ld 1 false), [.t 8], none⟩,
   ⟨(some 40), .nilck, [.t 39], none⟩,
   ⟨(some 41), (.fadr 2 1 false), [.t 40], none⟩,
   ⟨(some 42), (.ld 1 false), [.t 41], none⟩,
   ⟨(some 43), .mv, [.c (.i .i64 0)], none⟩] [0, 1, 2, 8, 42, 43])
 (.block 0
  l59_5))
 (.seq (.seq (.reg [⟨(some 118), .mv, [.t 2], none⟩,
   ⟨(some 119), (.mkfn 87 0), [.t 8], none⟩,
   ⟨(some 120), (.call .sh), [.c (.fn 86 [] []), .t 118, .t 119], none⟩] [8, 120])
 (.cond (.t 120)
  (.seq (.reg [⟨(some 6), .mv, [.c .nilp], none⟩,
    ⟨(some 7), .mv, [.c (.i .i64 1)], none⟩] [6, 7])
  .ret)
  .skip))
 (.seq (.reg [⟨(some 121), (.ld 1 false), [.t 8], none⟩,
   ⟨(some 6), .mv, [.t 121], none⟩,
   ⟨(some 7), .mv, [.c (.i .i64 0)], none⟩] [6, 7])
 .ret))))))

def d59 : DFun := ⟨3, 122, c59, [.t 6, .t 7]⟩

theorem ok59 : Fok Tryd.prog 59 d59 := ⟨Tryd.f59, Tryd.func59, by kernel_rfl, by kernel_rfl⟩

-- (*bibelot/knight.board).tight
def a60_0 : DC :=
 (.reg [⟨(some 9), .mv, [.t 27], none⟩] [2, 3, 4, 8, 9])

def b60_1 : DC :=
 (.block 3
  (.seq (.reg [⟨(some 29), (.ld 1 false), [.t 4], none⟩,
    ⟨(some 30), .mv, [.t 9], none⟩,
    ⟨(some 31), (.bsl false [(.i .i64 0)] false 1 [0]), [.t 30], none⟩,
    ⟨(some 32), (.call (.pu [])), [.c (.fn 75 [] []), .t 29, .t 31], none⟩,
    ⟨(some 28), .mv, [.t 32], none⟩,
    ⟨(some 33), (.ext 0), [.t 28], none⟩,
    ⟨(some 34), (.ext 1), [.t 28], none⟩,
    ⟨(some 10), .mv, [.t 33], none⟩,
    ⟨(some 11), .mv, [.t 34], none⟩] [2, 3, 8, 10])
  (.seq (.reg [⟨(some 35), (.ld 1 false), [.t 8], none⟩,
    ⟨(some 36), .mv, [.t 10], none⟩,
    ⟨(some 37), (.call .sh), [.t 35, .t 36], none⟩] [2, 3, 10, 37])
  (.cond (.t 37)
   (.seq (.reg [⟨(some 38), .mv, [.t 10], none⟩,
     ⟨none, (.st 1), [.t 2, .t 38], none⟩,
     ⟨none, (.st 1), [.t 3, .c (.b true)], none⟩] [])
   .ret)
   .skip))))

def b60_2 : DC :=
 (.seq (.reg [⟨(some 15), (.binI .lss), [.t 14, .c (.i .i64 2)], none⟩] [1, 2, 3, 4, 14, 15])
 (.seq (.cond (.t 15)
  .skip
  (.exit 0))
 (.seq (.block 1
  (.seq (.reg [⟨(some 16), .mv, [.t 14], none⟩,
    ⟨(some 5), .mv, [.t 16], none⟩] [1, 2, 3, 4, 5, 14])
  (.seq (.reg [⟨(some 17), (.ld 1 false), [.t 1], none⟩,
    ⟨(some 18), .mv, [.t 5], none⟩,
    ⟨(some 19), (.call (.pu [])), [.c (.fn 69 [] []), .t 17, .t 18], none⟩,
    ⟨(some 20), (.ld 1 false), [.t 1], none⟩,
    ⟨(some 21), .mv, [.t 5], none⟩,
    ⟨(some 22), (.binI .sub), [.c (.i .i64 1), .t 21], none⟩,
    ⟨(some 23), (.call (.pu [])), [.c (.fn 69 [] []), .t 20, .t 22], none⟩,
    ⟨(some 6), (.alloc [(.i .u64 0)] false), [], none⟩,
    ⟨(some 7), (.alloc [(.i .u64 0)] false), [], none⟩,
    ⟨none, (.st 1), [.t 6, .t 19], none⟩,
    ⟨none, (.st 1), [.t 7, .t 23], none⟩] [1, 2, 3, 4, 6, 7, 14])
  (.seq (.reg [⟨(some 24), (.mkfn 88 0), [.t 1, .t 6, .t 7], none⟩,
    ⟨(some 8), (.alloc [.nilfn] false), [], none⟩,
    ⟨none, (.st 1), [.t 8, .t 24], none⟩] [1, 2, 3, 4, 6, 8, 14])
  (.seq (.seq (.reg [⟨(some 25), (.ld 1 false), [.t 6], none⟩,
    ⟨(some 26), (.call .sh), [.c (.fn 63 [] []), .t 25], none⟩] [1, 2, 3, 4, 6, 8, 14, 26])
  (.block 2
   (.rfunc (.t 26) [27] a60_0
    b60_1 [1, 2, 3, 4, 6, 8, 14])))
  (.seq (.reg [⟨(some 39), (.ld 1 false), [.t 8], none⟩,
    ⟨(some 40), (.ld 1 false), [.t 6], none⟩,
    ⟨(some 41), (.call .sh), [.t 39, .t 40], none⟩] [1, 2, 3, 4, 6, 14, 41])
  (.cond (.t 41)
   (.seq (.reg [⟨(some 42), (.ld 1 false), [.t 6], none⟩,
     ⟨none, (.st 1), [.t 2, .t 42], none⟩,
     ⟨none, (.st 1), [.t 3, .c (.b true)], none⟩] [2, 3])
   .ret)
   .skip)))))))
 (.reg [⟨(some 43), (.binI .add), [.t 14, .c (.i .i64 1)], none⟩,
   ⟨(some 14), .mv, [.t 43], none⟩] [1, 2, 3, 4, 14]))))

def l60_3 : DC :=
 (.loop [1, 2, 3, 4, 14] b60_2)

def c60 : DC :=
 (.seq (.reg [⟨(some 1), (.box false), [.t 0], none⟩,
   ⟨(some 2), (.alloc [(.i .u64 0)] false), [], none⟩,
   ⟨(some 3), (.alloc [(.b false)] false), [], none⟩] [1, 2, 3])
 (.seq (.reg [⟨(some 12), (.ld 1 false), [.t 1], none⟩,
   ⟨(some 13), (.call .sh), [.c (.fn 74 [] []), .t 12], none⟩,
   ⟨(some 4), (.alloc [.nilp] false), [], none⟩,
   ⟨none, (.st 1), [.t 4, .t 13], none⟩] [1, 2, 3, 4])
 (.seq (.seq (.reg [⟨(some 14), .mv, [.c (.i .i64 0)], none⟩] [1, 2, 3, 4, 14])
 (.block 0
  l60_3))
 (.seq (.reg [⟨none, (.st 1), [.t 2, .c (.i .u64 0)], none⟩,
   ⟨none, (.st 1), [.t 3, .c (.b false)], none⟩] [2, 3])
 .ret))))

def d60 : DFun := ⟨1, 44, c60, [.c 2 1 false, .c 3 1 false]⟩

theorem ok60 : Fok Tryd.prog 60 d60 := ⟨Tryd.f60, Tryd.func60, by kernel_rfl, by kernel_rfl⟩

-- (*bibelot/knight.board).tour
def c61 : DC :=
 (.seq (.reg [⟨(some 3), (.box false), [.t 0], none⟩,
   ⟨(some 4), (.box false), [.t 1], none⟩,
   ⟨(some 5), (.box false), [.t 2], none⟩,
   ⟨(some 6), .mv, [.c .nilsl], none⟩] [3, 4, 5])
 (.seq (.reg [⟨(some 10), .mkmap, [], none⟩,
   ⟨(some 7), (.alloc [.nilmap] false), [], none⟩,
   ⟨none, (.st 1), [.t 7, .t 10], none⟩] [3, 4, 5, 7])
 (.seq (.reg [⟨(some 11), (.ld 1 false), [.t 4], none⟩,
   ⟨(some 12), (.bsl false [(.i .i64 0)] false 1 [0]), [.t 11], none⟩,
   ⟨(some 8), (.alloc [.nilsl] false), [], none⟩,
   ⟨none, (.st 1), [.t 8, .t 12], none⟩] [3, 4, 5, 7, 8])
 (.seq (.reg [⟨(some 9), (.alloc [.nilfn] false), [], none⟩] [3, 4, 5, 7, 8, 9])
 (.seq (.reg [⟨(some 13), (.mkfn 89 0), [.t 5, .t 3, .t 4, .t 7, .t 8, .t 9], none⟩,
   ⟨none, (.st 1), [.t 9, .t 13], none⟩] [3, 4, 8, 9])
 (.seq (.seq (.reg [⟨(some 14), (.ld 1 false), [.t 9], none⟩,
   ⟨(some 15), (.ld 1 false), [.t 4], none⟩,
   ⟨(some 16), (.ld 1 false), [.t 3], none⟩,
   ⟨(some 17), (.call (.pu [])), [.c (.fn 81 [] []), .t 16], none⟩,
   ⟨(some 18), (.ld 1 false), [.t 4], none⟩,
   ⟨(some 19), (.conv .u64), [.t 18], none⟩,
   ⟨(some 20), (.binI .shl), [.c (.i .u64 1), .t 19], none⟩,
   ⟨(some 21), (.binI .andNot), [.t 17, .t 20], none⟩,
   ⟨(some 22), (.call .sh), [.t 14, .t 15, .t 21], none⟩] [8, 22])
 (.cond (.t 22)
  (.seq (.reg [⟨(some 23), (.ld 1 false), [.t 8], none⟩,
    ⟨(some 6), .mv, [.t 23], none⟩] [6])
  .ret)
  .skip))
 (.seq (.reg [⟨(some 6), .mv, [.c .nilsl], none⟩] [6])
 .ret)))))))

def d61 : DFun := ⟨3, 24, c61, [.t 6]⟩

theorem ok61 : Fok Tryd.prog 61 d61 := ⟨Tryd.f61, Tryd.func61, by kernel_rfl, by kernel_rfl⟩

-- bibelot/bibelotref06.Near
def c62 : DC :=
 (.seq (.reg [⟨(some 6), .mv, [.c (.b false)], none⟩] [0, 1, 2])
 (.seq (.reg [⟨(some 9), .mv, [.t 1], none⟩,
   ⟨(some 10), .mv, [.t 0], none⟩,
   ⟨(some 11), (.binI .quo), [.t 9, .t 10], none⟩,
   ⟨(some 12), .mv, [.t 2], none⟩,
   ⟨(some 13), .mv, [.t 0], none⟩,
   ⟨(some 14), (.binI .quo), [.t 12, .t 13], none⟩,
   ⟨(some 15), (.binI .sub), [.t 11, .t 14], none⟩,
   ⟨(some 16), .mv, [.t 1], none⟩,
   ⟨(some 17), .mv, [.t 0], none⟩,
   ⟨(some 18), (.binI .rem), [.t 16, .t 17], none⟩,
   ⟨(some 19), .mv, [.t 2], none⟩,
   ⟨(some 20), .mv, [.t 0], none⟩,
   ⟨(some 21), (.binI .rem), [.t 19, .t 20], none⟩,
   ⟨(some 22), (.binI .sub), [.t 18, .t 21], none⟩,
   ⟨(some 7), .mv, [.t 15], none⟩,
   ⟨(some 8), .mv, [.t 22], none⟩] [7, 8])
 (.seq (.reg [⟨(some 23), .mv, [.t 7], none⟩,
   ⟨(some 24), .mv, [.t 7], none⟩,
   ⟨(some 25), (.binI .mul), [.t 23, .t 24], none⟩,
   ⟨(some 26), .mv, [.t 8], none⟩,
   ⟨(some 27), .mv, [.t 8], none⟩,
   ⟨(some 28), (.binI .mul), [.t 26, .t 27], none⟩,
   ⟨(some 29), (.binI .add), [.t 25, .t 28], none⟩,
   ⟨(some 30), (.binI .eql), [.t 29, .c (.i .i64 5)], none⟩,
   ⟨(some 6), .mv, [.t 30], none⟩] [6])
 .ret)))

def d62 : DFun := ⟨3, 31, c62, [.t 6]⟩

theorem ok62 : Fok Tryd.prog 62 d62 := ⟨Tryd.f62, Tryd.func62, by kernel_rfl, by kernel_rfl⟩

-- bibelot/knight.members
def c63 : DC :=
 (.seq (.reg [⟨(some 1), (.box false), [.t 0], none⟩,
   ⟨(some 2), .mv, [.c .nilfn], none⟩] [1])
 (.seq (.reg [⟨(some 3), (.mkfn 93 0), [.t 1], none⟩,
   ⟨(some 2), .mv, [.t 3], none⟩] [2])
 .ret))

def d63 : DFun := ⟨1, 4, c63, [.t 2]⟩

theorem ok63 : Fok Tryd.prog 63 d63 := ⟨Tryd.f63, Tryd.func63, by kernel_rfl, by kernel_rfl⟩

-- bibelot/knight.listed
def a64_0 : DC :=
 (.reg [⟨(some 4), .mv, [.t 7], none⟩] [3, 4])

def b64_1 : DC :=
 (.block 1
  (.reg [⟨(some 8), (.ld 1 false), [.t 3], none⟩,
    ⟨(some 9), .mv, [.t 4], none⟩,
    ⟨(some 10), (.bsl false [(.i .i64 0)] false 1 [0]), [.t 9], none⟩,
    ⟨(some 11), (.app 1 false 8), [.t 8, .t 10], none⟩,
    ⟨none, (.st 1), [.t 3, .t 11], none⟩] []))

def c64 : DC :=
 (.seq (.reg [⟨(some 2), .mv, [.c .nilsl], none⟩] [0])
 (.seq (.reg [⟨(some 3), (.alloc [.nilsl] false), [], none⟩] [0, 3])
 (.seq (.seq (.reg [⟨(some 5), .mv, [.t 0], none⟩,
   ⟨(some 6), (.call .sh), [.c (.fn 63 [] []), .t 5], none⟩] [3, 6])
 (.block 0
  (.rfunc (.t 6) [7] a64_0
   b64_1 [3])))
 (.seq (.reg [⟨(some 12), (.ld 1 false), [.t 3], none⟩,
   ⟨(some 2), .mv, [.t 12], none⟩] [2])
 .ret))))

def d64 : DFun := ⟨1, 13, c64, [.t 2]⟩

theorem ok64 : Fok Tryd.prog 64 d64 := ⟨Tryd.f64, Tryd.func64, by kernel_rfl, by kernel_rfl⟩

-- (*bibelot/knight.board).way
def a65_0 : DC :=
 (.reg [⟨(some 10), .mv, [.t 17], none⟩] [5, 7, 8, 10])

def b65_1 : DC :=
 (.block 1
  (.seq (.reg [⟨(some 18), (.ld 1 false), [.t 7], none⟩,
    ⟨(some 19), .mv, [.t 10], none⟩,
    ⟨(some 20), (.bsl false [(.i .u64 0)] false 1 [0]), [.t 19], none⟩,
    ⟨(some 21), (.app 1 false 8), [.t 18, .t 20], none⟩,
    ⟨none, (.st 1), [.t 7, .t 21], none⟩] [5, 8, 10])
  (.seq (.reg [⟨(some 22), .mv, [.t 10], none⟩,
    ⟨(some 23), (.ld 1 false), [.t 5], none⟩,
    ⟨(some 24), (.conv .u64), [.t 23], none⟩,
    ⟨(some 25), (.binI .shr), [.t 22, .t 24], none⟩,
    ⟨(some 26), (.binI .and), [.t 25, .c (.i .u64 1)], none⟩,
    ⟨(some 27), (.binI .eql), [.t 26, .c (.i .u64 1)], none⟩] [8, 27])
  (.cond (.t 27)
   (.seq (.reg [⟨none, (.st 1), [.t 8, .c (.b true)], none⟩] [])
   (.exit 0))
   .skip))))

def b65_2 : DC :=
 (.seq (.seq (.reg [⟨(some 35), .mv, [.t 12], none⟩,
   ⟨(some 36), (.binI .geq), [.t 35, .c (.i .i64 0)], none⟩] [0, 5, 7, 11, 12, 36])
 (.cond (.t 36)
  .skip
  (.exit 2)))
 (.seq (.block 3
  (.seq (.reg [⟨(some 39), (.ld 1 false), [.t 7], none⟩,
    ⟨(some 40), .mv, [.t 12], none⟩,
    ⟨(some 41), (.ixS 1 false), [.t 39, .t 40], none⟩,
    ⟨(some 42), (.ld 1 false), [.t 41], none⟩,
    ⟨(some 43), .mv, [.t 0], none⟩,
    ⟨(some 44), (.ld 1 false), [.t 5], none⟩,
    ⟨(some 45), .nilck, [.t 43], none⟩,
    ⟨(some 46), (.fadr 3 36 true), [.t 45], none⟩,
    ⟨(some 47), (.ixA 36 1 false), [.t 46, .t 44], none⟩,
    ⟨(some 48), (.ld 1 false), [.t 47], none⟩,
    ⟨(some 49), (.binI .and), [.t 42, .t 48], none⟩,
    ⟨(some 50), (.call (.pu [])), [.c (.fn 84 [] []), .t 49], none⟩,
    ⟨none, (.st 1), [.t 5, .t 50], none⟩] [0, 5, 7, 11, 12])
  (.reg [⟨(some 51), .mv, [.t 11], none⟩,
    ⟨(some 52), (.ld 1 false), [.t 5], none⟩,
    ⟨(some 53), (.bsl false [(.i .i64 0)] false 1 [0]), [.t 52], none⟩,
    ⟨(some 54), (.app 1 false 8), [.t 51, .t 53], none⟩,
    ⟨(some 11), .mv, [.t 54], none⟩] [0, 5, 7, 11, 12])))
 (.reg [⟨(some 37), .mv, [.t 12], none⟩,
   ⟨(some 38), (.binI .sub), [.t 37, .c (.i .i64 1)], none⟩,
   ⟨(some 12), .mv, [.t 38], none⟩] [0, 5, 7, 11, 12])))

def l65_3 : DC :=
 (.loop [0, 5, 7, 11, 12] b65_2)

def c65 : DC :=
 (.seq (.reg [⟨(some 5), (.box false), [.t 2], none⟩,
   ⟨(some 6), .mv, [.c .nilsl], none⟩] [0, 1, 5])
 (.seq (.reg [⟨(some 7), (.alloc [.nilsl] false), [], none⟩] [0, 1, 5, 7])
 (.seq (.reg [⟨(some 8), (.alloc [(.b false)] false), [], none⟩,
   ⟨none, (.st 1), [.t 8, .c (.b false)], none⟩] [0, 1, 5, 7, 8])
 (.seq (.seq (.reg [⟨(some 13), .mv, [.t 0], none⟩,
   ⟨(some 14), .mv, [.t 1], none⟩,
   ⟨(some 15), (.call .sh), [.c (.fn 73 [] []), .t 13, .t 14], none⟩] [0, 5, 7, 8, 15])
 (.block 0
  (.rfunc (.t 15) [16, 17] a65_0
   b65_1 [0, 5, 7, 8])))
 (.seq (.seq (.reg [⟨(some 28), (.ld 1 false), [.t 8], none⟩,
   ⟨(some 29), .notB, [.t 28], none⟩] [0, 5, 7, 29])
 (.cond (.t 29)
  (.seq (.reg [⟨(some 6), .mv, [.c .nilsl], none⟩] [6])
  .ret)
  .skip))
 (.seq (.reg [⟨(some 30), (.ld 1 false), [.t 5], none⟩,
   ⟨(some 31), (.bsl false [(.i .i64 0)] false 1 [0]), [.t 30], none⟩,
   ⟨(some 11), .mv, [.t 31], none⟩] [0, 5, 7, 11])
 (.seq (.seq (.reg [⟨(some 32), (.ld 1 false), [.t 7], none⟩,
   ⟨(some 33), (.len 0), [.t 32], none⟩,
   ⟨(some 34), (.binI .sub), [.t 33, .c (.i .i64 2)], none⟩,
   ⟨(some 12), .mv, [.t 34], none⟩] [0, 5, 7, 11, 12])
 (.block 2
  l65_3))
 (.seq (.reg [⟨(some 55), .mv, [.t 11], none⟩,
   ⟨(some 56), (.call .sh), [.c (.fn 80 [] []), .t 55], none⟩] [11])
 (.seq (.reg [⟨(some 57), .mv, [.t 11], none⟩,
   ⟨(some 6), .mv, [.t 57], none⟩] [6])
 .ret)))))))))

def d65 : DFun := ⟨3, 58, c65, [.t 6]⟩

theorem ok65 : Fok Tryd.prog 65 d65 := ⟨Tryd.f65, Tryd.func65, by kernel_rfl, by kernel_rfl⟩

-- bibelot/bibelotref06.paired
def b67_0 : DC :=
 (.seq (.seq (.reg [⟨(some 17), .mv, [.t 9], none⟩,
   ⟨(some 18), .mv, [.t 0], none⟩,
   ⟨(some 19), .mv, [.t 1], none⟩,
   ⟨(some 20), (.binI .mul), [.t 18, .t 19], none⟩,
   ⟨(some 21), (.binI .lss), [.t 17, .t 20], none⟩,
   ⟨(some 22), .mv, [.t 21], none⟩,
   ⟨(some 23), .mv, [.t 2], (some (22, true))⟩,
   ⟨(some 24), .mv, [.t 8], (some (22, true))⟩,
   ⟨(some 25), (.binI .shr), [.t 23, .t 24], (some (22, true))⟩,
   ⟨(some 26), (.binI .rem), [.t 25, .c (.i .i64 2)], (some (22, true))⟩,
   ⟨(some 27), (.binI .eql), [.t 26, .c (.i .i64 1)], (some (22, true))⟩,
   ⟨(some 28), .pick, [.t 22, .t 27, .c (.b false)], none⟩] [0, 1, 2, 7, 8, 9, 28])
 (.cond (.t 28)
  .skip
  (.exit 2)))
 (.seq (.block 3
  (.seq (.reg [⟨(some 31), .mv, [.t 1], none⟩,
    ⟨(some 32), .mv, [.t 8], none⟩,
    ⟨(some 33), .mv, [.t 9], none⟩,
    ⟨(some 34), (.call (.pu [])), [.c (.fn 62 [] []), .t 31, .t 32, .t 33], none⟩] [0, 1, 2, 7, 8, 9, 34])
  (.cond (.t 34)
   (.reg [⟨(some 35), .mv, [.t 7], none⟩,
     ⟨(some 36), .mv, [.t 9], none⟩,
     ⟨(some 37), (.binI .shl), [.c (.i .i64 1), .t 36], none⟩,
     ⟨(some 38), (.binI .or), [.t 35, .t 37], none⟩,
     ⟨(some 7), .mv, [.t 38], none⟩] [0, 1, 2, 7, 8, 9])
   .skip)))
 (.reg [⟨(some 29), .mv, [.t 9], none⟩,
   ⟨(some 30), (.binI .add), [.t 29, .c (.i .i64 1)], none⟩,
   ⟨(some 9), .mv, [.t 30], none⟩] [0, 1, 2, 7, 8, 9])))

def l67_1 : DC :=
 (.loop [0, 1, 2, 7, 8, 9] b67_0)

def b67_2 : DC :=
 (.seq (.seq (.reg [⟨(some 10), .mv, [.t 8], none⟩,
   ⟨(some 11), .mv, [.t 0], none⟩,
   ⟨(some 12), .mv, [.t 1], none⟩,
   ⟨(some 13), (.binI .mul), [.t 11, .t 12], none⟩,
   ⟨(some 14), (.binI .lss), [.t 10, .t 13], none⟩] [0, 1, 2, 7, 8, 14])
 (.cond (.t 14)
  .skip
  (.exit 0)))
 (.seq (.block 1
  (.seq (.reg [⟨(some 9), .mv, [.c (.i .i64 0)], none⟩] [0, 1, 2, 7, 8, 9])
  (.block 2
   l67_1)))
 (.reg [⟨(some 15), .mv, [.t 8], none⟩,
   ⟨(some 16), (.binI .add), [.t 15, .c (.i .i64 1)], none⟩,
   ⟨(some 8), .mv, [.t 16], none⟩] [0, 1, 2, 7, 8])))

def l67_3 : DC :=
 (.loop [0, 1, 2, 7, 8] b67_2)

def c67 : DC :=
 (.seq (.reg [⟨(some 6), .mv, [.c (.i .i64 0)], none⟩] [0, 1, 2])
 (.seq (.reg [⟨(some 7), .mv, [.c (.i .i64 0)], none⟩] [0, 1, 2, 7])
 (.seq (.seq (.reg [⟨(some 8), .mv, [.c (.i .i64 0)], none⟩] [0, 1, 2, 7, 8])
 (.block 0
  l67_3))
 (.seq (.reg [⟨(some 39), .mv, [.t 7], none⟩,
   ⟨(some 6), .mv, [.t 39], none⟩] [6])
 .ret))))

def d67 : DFun := ⟨3, 40, c67, [.t 6]⟩

theorem ok67 : Fok Tryd.prog 67 d67 := ⟨Tryd.f67, Tryd.func67, by kernel_rfl, by kernel_rfl⟩

-- bibelot/knight.openSet
def c68 : DC :=
 (.seq (.reg [⟨(some 6), .mv, [.c .nilp], none⟩,
   ⟨(some 7), .mv, [.c (.i .i64 0)], none⟩] [0, 1, 2])
 (.seq (.reg [⟨(some 11), .mv, [.t 0], none⟩,
   ⟨(some 12), .mv, [.t 1], none⟩,
   ⟨(some 13), (.call .sh), [.c (.fn 59 [] []), .t 11, .t 12, .c .nilsl], none⟩,
   ⟨(some 10), .mv, [.t 13], none⟩,
   ⟨(some 14), (.ext 0), [.t 10], none⟩,
   ⟨(some 15), (.ext 1), [.t 10], none⟩,
   ⟨(some 8), .mv, [.t 14], none⟩,
   ⟨(some 9), .mv, [.t 15], none⟩] [2, 8, 9])
 (.seq (.seq (.reg [⟨(some 16), .mv, [.t 9], none⟩,
   ⟨(some 17), (.binI .neq), [.t 16, .c (.i .i64 0)], none⟩] [2, 8, 9, 17])
 (.cond (.t 17)
  (.seq (.reg [⟨(some 18), .mv, [.t 9], none⟩,
    ⟨(some 6), .mv, [.c .nilp], none⟩,
    ⟨(some 7), .mv, [.t 18], none⟩] [6, 7])
  .ret)
  .skip))
 (.seq (.seq (.reg [⟨(some 19), .mv, [.t 2], none⟩,
   ⟨(some 20), (.binI .lss), [.t 19, .c (.i .i64 0)], none⟩,
   ⟨(some 21), .mv, [.t 20], none⟩,
   ⟨(some 22), .mv, [.t 2], (some (21, false))⟩,
   ⟨(some 23), .mv, [.t 8], (some (21, false))⟩,
   ⟨(some 24), .nilck, [.t 23], (some (21, false))⟩,
   ⟨(some 25), (.fadr 2 1 false), [.t 24], (some (21, false))⟩,
   ⟨(some 26), (.ld 1 false), [.t 25], (some (21, false))⟩,
   ⟨(some 27), (.conv .u64), [.t 26], (some (21, false))⟩,
   ⟨(some 28), (.binI .shl), [.c (.i .i64 1), .t 27], (some (21, false))⟩,
   ⟨(some 29), (.binI .geq), [.t 22, .t 28], (some (21, false))⟩,
   ⟨(some 30), .pick, [.t 21, .c (.b true), .t 29], none⟩] [8, 30])
 (.cond (.t 30)
  (.seq (.reg [⟨(some 6), .mv, [.c .nilp], none⟩,
    ⟨(some 7), .mv, [.c (.i .i64 1)], none⟩] [6, 7])
  .ret)
  .skip))
 (.seq (.reg [⟨(some 31), .mv, [.t 8], none⟩,
   ⟨(some 6), .mv, [.t 31], none⟩,
   ⟨(some 7), .mv, [.c (.i .i64 0)], none⟩] [6, 7])
 .ret)))))

def d68 : DFun := ⟨3, 32, c68, [.t 6, .t 7]⟩

theorem ok68 : Fok Tryd.prog 68 d68 := ⟨Tryd.f68, Tryd.func68, by kernel_rfl, by kernel_rfl⟩

-- (*bibelot/knight.board).coloured
def b69_0 : DC :=
 (.seq (.reg [⟨(some 12), (.binI .lss), [.t 11, .t 10], none⟩] [0, 1, 5, 10, 11, 12])
 (.seq (.cond (.t 12)
  .skip
  (.exit 0))
 (.seq (.block 1
  (.seq (.reg [⟨(some 13), .mv, [.t 11], none⟩,
    ⟨(some 6), .mv, [.t 13], none⟩] [0, 1, 5, 6, 10, 11])
  (.seq (.reg [⟨(some 14), .mv, [.t 6], none⟩,
    ⟨(some 15), .mv, [.t 0], none⟩,
    ⟨(some 16), .nilck, [.t 15], none⟩,
    ⟨(some 17), (.fadr 1 1 false), [.t 16], none⟩,
    ⟨(some 18), (.ld 1 false), [.t 17], none⟩,
    ⟨(some 19), (.binI .quo), [.t 14, .t 18], none⟩,
    ⟨(some 20), .mv, [.t 6], none⟩,
    ⟨(some 21), .mv, [.t 0], none⟩,
    ⟨(some 22), .nilck, [.t 21], none⟩,
    ⟨(some 23), (.fadr 1 1 false), [.t 22], none⟩,
    ⟨(some 24), (.ld 1 false), [.t 23], none⟩,
    ⟨(some 25), (.binI .rem), [.t 20, .t 24], none⟩,
    ⟨(some 26), (.binI .add), [.t 19, .t 25], none⟩,
    ⟨(some 27), (.binI .rem), [.t 26, .c (.i .i64 2)], none⟩,
    ⟨(some 28), .mv, [.t 1], none⟩,
    ⟨(some 29), (.binI .eql), [.t 27, .t 28], none⟩] [0, 1, 5, 6, 10, 11, 29])
  (.cond (.t 29)
   (.reg [⟨(some 30), .mv, [.t 5], none⟩,
     ⟨(some 31), .mv, [.t 6], none⟩,
     ⟨(some 32), (.conv .u64), [.t 31], none⟩,
     ⟨(some 33), (.binI .shl), [.c (.i .u64 1), .t 32], none⟩,
     ⟨(some 34), (.binI .or), [.t 30, .t 33], none⟩,
     ⟨(some 5), .mv, [.t 34], none⟩] [0, 1, 5, 10, 11])
   .skip))))
 (.reg [⟨(some 35), (.binI .add), [.t 11, .c (.i .i64 1)], none⟩,
   ⟨(some 11), .mv, [.t 35], none⟩] [0, 1, 5, 10, 11]))))

def l69_1 : DC :=
 (.loop [0, 1, 5, 10, 11] b69_0)

def c69 : DC :=
 (.seq (.reg [⟨(some 4), .mv, [.c (.i .u64 0)], none⟩] [0, 1])
 (.seq (.reg [⟨(some 5), .mv, [.c (.i .u64 0)], none⟩] [0, 1, 5])
 (.seq (.seq (.reg [⟨(some 7), .mv, [.t 0], none⟩,
   ⟨(some 8), .nilck, [.t 7], none⟩,
   ⟨(some 9), (.fadr 2 1 false), [.t 8], none⟩,
   ⟨(some 10), (.ld 1 false), [.t 9], none⟩,
   ⟨(some 11), .mv, [.c (.i .i64 0)], none⟩] [0, 1, 5, 10, 11])
 (.block 0
  l69_1))
 (.seq (.reg [⟨(some 36), .mv, [.t 5], none⟩,
   ⟨(some 4), .mv, [.t 36], none⟩] [4])
 .ret))))

def d69 : DFun := ⟨2, 37, c69, [.t 4]⟩

theorem ok69 : Fok Tryd.prog 69 d69 := ⟨Tryd.f69, Tryd.func69, by kernel_rfl, by kernel_rfl⟩

-- math/bits.OnesCount64
def c70 : DC :=
 (.seq (.reg [⟨(some 2), .mv, [.c (.i .i64 0)], none⟩] [0])
 (.seq (.reg [⟨(some 3), .mv, [.t 0], none⟩,
   ⟨(some 4), (.binI .shr), [.t 3, .c (.i .u64 1)], none⟩,
   ⟨(some 5), (.binI .and), [.t 4, .c (.i .u64 6148914691236517205)], none⟩,
   ⟨(some 6), .mv, [.t 0], none⟩,
   ⟨(some 7), (.binI .and), [.t 6, .c (.i .u64 6148914691236517205)], none⟩,
   ⟨(some 8), (.binI .add), [.t 5, .t 7], none⟩,
   ⟨(some 0), .mv, [.t 8], none⟩] [0])
 (.seq (.reg [⟨(some 9), .mv, [.t 0], none⟩,
   ⟨(some 10), (.binI .shr), [.t 9, .c (.i .u64 2)], none⟩,
   ⟨(some 11), (.binI .and), [.t 10, .c (.i .u64 3689348814741910323)], none⟩,
   ⟨(some 12), .mv, [.t 0], none⟩,
   ⟨(some 13), (.binI .and), [.t 12, .c (.i .u64 3689348814741910323)], none⟩,
   ⟨(some 14), (.binI .add), [.t 11, .t 13], none⟩,
   ⟨(some 0), .mv, [.t 14], none⟩] [0])
 (.seq (.reg [⟨(some 15), .mv, [.t 0], none⟩,
   ⟨(some 16), (.binI .shr), [.t 15, .c (.i .u64 4)], none⟩,
   ⟨(some 17), .mv, [.t 0], none⟩,
   ⟨(some 18), (.binI .add), [.t 16, .t 17], none⟩,
   ⟨(some 19), (.binI .and), [.t 18, .c (.i .u64 1085102592571150095)], none⟩,
   ⟨(some 0), .mv, [.t 19], none⟩] [0])
 (.seq (.reg [⟨(some 20), .mv, [.t 0], none⟩,
   ⟨(some 21), .mv, [.t 0], none⟩,
   ⟨(some 22), (.binI .shr), [.t 21, .c (.i .u64 8)], none⟩,
   ⟨(some 23), (.binI .add), [.t 20, .t 22], none⟩,
   ⟨(some 0), .mv, [.t 23], none⟩] [0])
 (.seq (.reg [⟨(some 24), .mv, [.t 0], none⟩,
   ⟨(some 25), .mv, [.t 0], none⟩,
   ⟨(some 26), (.binI .shr), [.t 25, .c (.i .u64 16)], none⟩,
   ⟨(some 27), (.binI .add), [.t 24, .t 26], none⟩,
   ⟨(some 0), .mv, [.t 27], none⟩] [0])
 (.seq (.reg [⟨(some 28), .mv, [.t 0], none⟩,
   ⟨(some 29), .mv, [.t 0], none⟩,
   ⟨(some 30), (.binI .shr), [.t 29, .c (.i .u64 32)], none⟩,
   ⟨(some 31), (.binI .add), [.t 28, .t 30], none⟩,
   ⟨(some 0), .mv, [.t 31], none⟩] [0])
 (.seq (.reg [⟨(some 32), .mv, [.t 0], none⟩,
   ⟨(some 33), (.conv .i64), [.t 32], none⟩,
   ⟨(some 34), (.binI .and), [.t 33, .c (.i .i64 127)], none⟩,
   ⟨(some 2), .mv, [.t 34], none⟩] [2])
 .ret))))))))

def d70 : DFun := ⟨1, 35, c70, [.t 2]⟩

theorem ok70 : Fok Tryd.prog 70 d70 := ⟨Tryd.f70, Tryd.func70, by kernel_rfl, by kernel_rfl⟩

-- (*bibelot/knight.board).around
def a71_0 : DC :=
 (.reg [⟨(some 6), .mv, [.t 9], none⟩] [2, 5, 6])

def b71_1 : DC :=
 (.block 1
  (.reg [⟨(some 10), (.ld 1 false), [.t 5], none⟩,
    ⟨(some 11), (.ld 1 false), [.t 2], none⟩,
    ⟨(some 12), .mv, [.t 6], none⟩,
    ⟨(some 13), .nilck, [.t 11], none⟩,
    ⟨(some 14), (.fadr 3 36 true), [.t 13], none⟩,
    ⟨(some 15), (.ixA 36 1 false), [.t 14, .t 12], none⟩,
    ⟨(some 16), (.ld 1 false), [.t 15], none⟩,
    ⟨(some 17), (.binI .or), [.t 10, .t 16], none⟩,
    ⟨none, (.st 1), [.t 5, .t 17], none⟩] []))

def c71 : DC :=
 (.seq (.reg [⟨(some 2), (.box false), [.t 0], none⟩,
   ⟨(some 4), .mv, [.c (.i .u64 0)], none⟩] [1, 2])
 (.seq (.reg [⟨(some 5), (.alloc [(.i .u64 0)] false), [], none⟩,
   ⟨none, (.st 1), [.t 5, .c (.i .u64 0)], none⟩] [1, 2, 5])
 (.seq (.seq (.reg [⟨(some 7), .mv, [.t 1], none⟩,
   ⟨(some 8), (.call .sh), [.c (.fn 63 [] []), .t 7], none⟩] [2, 5, 8])
 (.block 0
  (.rfunc (.t 8) [9] a71_0
   b71_1 [2, 5])))
 (.seq (.reg [⟨(some 18), (.ld 1 false), [.t 5], none⟩,
   ⟨(some 4), .mv, [.t 18], none⟩] [4])
 .ret))))

def d71 : DFun := ⟨2, 19, c71, [.t 4]⟩

theorem ok71 : Fok Tryd.prog 71 d71 := ⟨Tryd.f71, Tryd.func71, by kernel_rfl, by kernel_rfl⟩

-- (*bibelot/knight.board).isQuiet
def c73 : DC :=
 (.seq (.reg [⟨(some 2), (.box false), [.t 0], none⟩,
   ⟨(some 3), (.box false), [.t 1], none⟩,
   ⟨(some 4), .mv, [.c .nilfn], none⟩] [2, 3])
 (.seq (.reg [⟨(some 5), (.mkfn 95 0), [.t 3, .t 2], none⟩,
   ⟨(some 4), .mv, [.t 5], none⟩] [4])
 .ret))

def d73 : DFun := ⟨2, 6, c73, [.t 4]⟩

theorem ok73 : Fok Tryd.prog 73 d73 := ⟨Tryd.f73, Tryd.func73, by kernel_rfl, by kernel_rfl⟩

-- (*bibelot/knight.board).paired
def b74_0 : DC :=
 (.seq (.reg [⟨(some 11), (.binI .lss), [.t 10, .c (.i .i64 36)], none⟩] [0, 3, 10, 11])
 (.seq (.cond (.t 11)
  .skip
  (.exit 0))
 (.seq (.block 1
  (.seq (.reg [⟨(some 12), .mv, [.t 10], none⟩,
    ⟨(some 4), .mv, [.t 12], none⟩] [0, 3, 4, 10])
  (.reg [⟨(some 13), (.ld 1 false), [.t 3], none⟩,
    ⟨(some 14), .mv, [.t 4], none⟩,
    ⟨(some 15), .nilck, [.t 13], none⟩,
    ⟨(some 16), (.fadr 1 36 true), [.t 15], none⟩,
    ⟨(some 17), (.ixA 36 1 false), [.t 16, .t 14], none⟩,
    ⟨none, (.st 1), [.t 17, .c (.i .i64 (-1))], none⟩] [0, 3, 10])))
 (.reg [⟨(some 18), (.binI .add), [.t 10, .c (.i .i64 1)], none⟩,
   ⟨(some 10), .mv, [.t 18], none⟩] [0, 3, 10]))))

def l74_1 : DC :=
 (.loop [0, 3, 10] b74_0)

def a74_2 : DC :=
 (.reg [⟨(some 6), .mv, [.t 24], none⟩] [3, 5, 6])

def b74_3 : DC :=
 (.block 3
  (.seq (.reg [⟨(some 25), (.ld 1 false), [.t 3], none⟩,
    ⟨(some 26), .nilck, [.t 25], none⟩,
    ⟨(some 27), (.fadr 37 1 false), [.t 26], none⟩,
    ⟨none, (.st 1), [.t 27, .c (.i .u64 0)], none⟩] [5, 6])
  (.reg [⟨(some 28), (.ld 1 false), [.t 5], none⟩,
    ⟨(some 29), .mv, [.t 6], none⟩,
    ⟨(some 30), (.call .sh), [.t 28, .t 29], none⟩] [])))

def c74 : DC :=
 (.seq (.reg [⟨(some 2), .mv, [.c .nilp], none⟩] [0])
 (.seq (.reg [⟨(some 7), .mv, [.t 0], none⟩,
   ⟨(some 8), (.build [.nilp, (.i .i64 0), (.i .i64 0), (.i .i64 0), (.i .i64 0), (.i .i64 0), (.i .i64 0), (.i .i64 0), (.i .i64 0), (.i .i64 0), (.i .i64 0), (.i .i64 0), (.i .i64 0), (.i .i64 0), (.i .i64 0), (.i .i64 0), (.i .i64 0), (.i .i64 0), (.i .i64 0), (.i .i64 0), (.i .i64 0), (.i .i64 0), (.i .i64 0), (.i .i64 0), (.i .i64 0), (.i .i64 0), (.i .i64 0), (.i .i64 0), (.i .i64 0), (.i .i64 0), (.i .i64 0), (.i .i64 0), (.i .i64 0), (.i .i64 0), (.i .i64 0), (.i .i64 0), (.i .i64 0), (.i .u64 0)] [(0, 1)]), [.t 7], none⟩,
   ⟨(some 9), (.box true), [.t 8], none⟩,
   ⟨(some 3), (.alloc [.nilp] false), [], none⟩,
   ⟨none, (.st 1), [.t 3, .t 9], none⟩] [0, 3])
 (.seq (.seq (.reg [⟨(some 10), .mv, [.c (.i .i64 0)], none⟩] [0, 3, 10])
 (.block 0
  l74_1))
 (.seq (.reg [⟨(some 19), (.ld 1 false), [.t 3], none⟩,
   ⟨(some 20), (.mkfn 96 1), [.t 19], none⟩,
   ⟨(some 5), (.alloc [.nilfn] false), [], none⟩,
   ⟨none, (.st 1), [.t 5, .t 20], none⟩] [0, 3, 5])
 (.seq (.seq (.reg [⟨(some 21), .mv, [.t 0], none⟩,
   ⟨(some 22), (.call (.pu [])), [.c (.fn 69 [] []), .t 21, .c (.i .i64 0)], none⟩,
   ⟨(some 23), (.call .sh), [.c (.fn 63 [] []), .t 22], none⟩] [3, 5, 23])
 (.block 2
  (.rfunc (.t 23) [24] a74_2
   b74_3 [3, 5])))
 (.seq (.reg [⟨(some 31), (.ld 1 false), [.t 3], none⟩,
   ⟨(some 2), .mv, [.t 31], none⟩] [2])
 .ret))))))

def d74 : DFun := ⟨1, 32, c74, [.t 2]⟩

theorem ok74 : Fok Tryd.prog 74 d74 := ⟨Tryd.f74, Tryd.func74, by kernel_rfl, by kernel_rfl⟩

-- (*bibelot/knight.pairing).reach
def b75_0 : DC :=
 (.seq (.reg [⟨(some 13), (.binI .lss), [.t 12, .t 11], none⟩] [2, 4, 5, 10, 11, 12, 13])
 (.seq (.cond (.t 13)
  .skip
  (.exit 0))
 (.seq (.block 1
  (.seq (.reg [⟨(some 14), (.ixS 1 false), [.t 10, .t 12], none⟩,
    ⟨(some 15), (.ld 1 false), [.t 14], none⟩,
    ⟨(some 7), .mv, [.t 15], none⟩] [2, 4, 5, 7, 10, 11, 12])
  (.reg [⟨(some 16), (.ld 1 false), [.t 4], none⟩,
    ⟨(some 17), .mv, [.t 7], none⟩,
    ⟨(some 18), (.conv .u64), [.t 17], none⟩,
    ⟨(some 19), (.binI .shl), [.c (.i .u64 1), .t 18], none⟩,
    ⟨(some 20), (.binI .or), [.t 16, .t 19], none⟩,
    ⟨none, (.st 1), [.t 4, .t 20], none⟩] [2, 4, 5, 10, 11, 12])))
 (.reg [⟨(some 21), (.binI .add), [.t 12, .c (.i .i64 1)], none⟩,
   ⟨(some 12), .mv, [.t 21], none⟩] [2, 4, 5, 10, 11, 12]))))

def l75_1 : DC :=
 (.loop [2, 4, 5, 10, 11, 12] b75_0)

def a75_2 : DC :=
 (.reg [⟨(some 9), .mv, [.t 34], none⟩] [2, 4, 9])

def b75_3 : DC :=
 (.block 5
  (.seq (.reg [⟨(some 35), (.ld 1 false), [.t 2], none⟩,
    ⟨(some 36), .mv, [.t 9], none⟩,
    ⟨(some 37), .nilck, [.t 35], none⟩,
    ⟨(some 38), (.fadr 1 36 true), [.t 37], none⟩,
    ⟨(some 39), (.ixA 36 1 false), [.t 38, .t 36], none⟩,
    ⟨(some 40), (.ld 1 false), [.t 39], none⟩,
    ⟨(some 41), (.binI .geq), [.t 40, .c (.i .i64 0)], none⟩] [2, 4, 9, 41])
  (.cond (.t 41)
   (.reg [⟨(some 42), (.ld 1 false), [.t 4], none⟩,
     ⟨(some 43), (.ld 1 false), [.t 2], none⟩,
     ⟨(some 44), .mv, [.t 9], none⟩,
     ⟨(some 45), .nilck, [.t 43], none⟩,
     ⟨(some 46), (.fadr 1 36 true), [.t 45], none⟩,
     ⟨(some 47), (.ixA 36 1 false), [.t 46, .t 44], none⟩,
     ⟨(some 48), (.ld 1 false), [.t 47], none⟩,
     ⟨(some 49), (.conv .u64), [.t 48], none⟩,
     ⟨(some 50), (.binI .shl), [.c (.i .u64 1), .t 49], none⟩,
     ⟨(some 51), (.binI .or), [.t 42, .t 50], none⟩,
     ⟨none, (.st 1), [.t 4, .t 51], none⟩] [])
   .skip)))

def b75_4 : DC :=
 (.seq (.seq (.reg [⟨(some 22), .mv, [.t 8], none⟩,
   ⟨(some 23), (.ld 1 false), [.t 4], none⟩,
   ⟨(some 24), (.binI .neq), [.t 22, .t 23], none⟩] [2, 4, 5, 24])
 (.cond (.t 24)
  .skip
  (.exit 2)))
 (.block 3
  (.seq (.reg [⟨(some 25), (.ld 1 false), [.t 4], none⟩,
    ⟨(some 8), .mv, [.t 25], none⟩] [2, 4, 8])
  (.seq (.reg [⟨(some 26), (.ld 1 false), [.t 2], none⟩,
    ⟨(some 27), .nilck, [.t 26], none⟩,
    ⟨(some 28), (.fadr 0 1 false), [.t 27], none⟩,
    ⟨(some 29), (.ld 1 false), [.t 28], none⟩,
    ⟨(some 30), (.ld 1 false), [.t 4], none⟩,
    ⟨(some 31), (.call (.pu [])), [.c (.fn 71 [] []), .t 29, .t 30], none⟩,
    ⟨(some 5), .mv, [.t 31], none⟩] [2, 4, 5, 8])
  (.seq (.reg [⟨(some 32), .mv, [.t 5], none⟩,
    ⟨(some 33), (.call .sh), [.c (.fn 63 [] []), .t 32], none⟩] [2, 4, 5, 8, 33])
  (.block 4
   (.rfunc (.t 33) [34] a75_2
    b75_3 [2, 4, 5, 8])))))))

def l75_5 : DC :=
 (.loop [2, 4, 5, 8] b75_4)

def c75 : DC :=
 (.seq (.reg [⟨(some 2), (.box false), [.t 0], none⟩,
   ⟨(some 4), (.alloc [(.i .u64 0)] false), [], none⟩,
   ⟨(some 5), .mv, [.c (.i .u64 0)], none⟩] [1, 2, 4, 5])
 (.seq (.seq (.reg [⟨(some 10), .mv, [.t 1], none⟩,
   ⟨(some 11), (.len 0), [.t 10], none⟩,
   ⟨(some 12), .mv, [.c (.i .i64 0)], none⟩] [2, 4, 5, 10, 11, 12])
 (.block 0
  l75_1))
 (.seq (.seq (.reg [⟨(some 8), .mv, [.c (.i .u64 0)], none⟩] [2, 4, 5, 8])
 (.block 2
  l75_5))
 (.seq (.reg [⟨(some 52), (.ld 1 false), [.t 4], none⟩,
   ⟨(some 53), .mv, [.t 5], none⟩,
   ⟨none, (.st 1), [.t 4, .t 52], none⟩,
   ⟨(some 5), .mv, [.t 53], none⟩] [4, 5])
 .ret))))

def d75 : DFun := ⟨2, 54, c75, [.c 4 1 false, .t 5]⟩

theorem ok75 : Fok Tryd.prog 75 d75 := ⟨Tryd.f75, Tryd.func75, by kernel_rfl, by kernel_rfl⟩

-- (*bibelot/knight.board).isTour
def b80_0 : DC :=
 (.seq (.seq (.reg [⟨(some 7), .mv, [.t 2], none⟩,
   ⟨(some 8), .mv, [.t 3], none⟩,
   ⟨(some 9), (.binI .lss), [.t 7, .t 8], none⟩] [0, 2, 3, 9])
 (.cond (.t 9)
  .skip
  (.exit 0)))
 (.seq (.block 1
  (.reg [⟨(some 14), .mv, [.t 0], none⟩,
    ⟨(some 15), .mv, [.t 2], none⟩,
    ⟨(some 16), .mv, [.t 0], none⟩,
    ⟨(some 17), .mv, [.t 3], none⟩,
    ⟨(some 18), .mv, [.t 0], none⟩,
    ⟨(some 19), .mv, [.t 3], none⟩,
    ⟨(some 20), (.ixS 1 false), [.t 18, .t 19], none⟩,
    ⟨(some 21), (.ld 1 false), [.t 20], none⟩,
    ⟨(some 22), .mv, [.t 0], none⟩,
    ⟨(some 23), .mv, [.t 2], none⟩,
    ⟨(some 24), (.ixS 1 false), [.t 22, .t 23], none⟩,
    ⟨(some 25), (.ld 1 false), [.t 24], none⟩,
    ⟨(some 26), (.ixS 1 false), [.t 14, .t 15], none⟩,
    ⟨none, (.st 1), [.t 26, .t 21], none⟩,
    ⟨(some 27), (.ixS 1 false), [.t 16, .t 17], none⟩,
    ⟨none, (.st 1), [.t 27, .t 25], none⟩] [0, 2, 3]))
 (.reg [⟨(some 10), .mv, [.t 2], none⟩,
   ⟨(some 11), (.binI .add), [.t 10, .c (.i .i64 1)], none⟩,
   ⟨(some 12), .mv, [.t 3], none⟩,
   ⟨(some 13), (.binI .sub), [.t 12, .c (.i .i64 1)], none⟩,
   ⟨(some 2), .mv, [.t 11], none⟩,
   ⟨(some 3), .mv, [.t 13], none⟩] [0, 2, 3])))

def l80_1 : DC :=
 (.loop [0, 2, 3] b80_0)

def c80 : DC :=
 (.seq (.reg [⟨(some 4), .mv, [.t 0], none⟩,
   ⟨(some 5), (.len 0), [.t 4], none⟩,
   ⟨(some 6), (.binI .sub), [.t 5, .c (.i .i64 1)], none⟩,
   ⟨(some 2), .mv, [.c (.i .i64 0)], none⟩,
   ⟨(some 3), .mv, [.t 6], none⟩] [0, 2, 3])
 (.block 0
  l80_1))

def d80 : DFun := ⟨1, 28, c80, []⟩

theorem ok80 : Fok Tryd.prog 80 d80 := ⟨Tryd.f80, Tryd.func80, by kernel_rfl, by kernel_rfl⟩

-- (*bibelot/knight.board).all
def c81 : DC :=
 (.seq (.reg [⟨(some 2), .mv, [.c (.i .u64 0)], none⟩] [0])
 (.seq (.reg [⟨(some 3), .mv, [.t 0], none⟩,
   ⟨(some 4), .nilck, [.t 3], none⟩,
   ⟨(some 5), (.fadr 2 1 false), [.t 4], none⟩,
   ⟨(some 6), (.ld 1 false), [.t 5], none⟩,
   ⟨(some 7), (.conv .u64), [.t 6], none⟩,
   ⟨(some 8), (.binI .shl), [.c (.i .u64 1), .t 7], none⟩,
   ⟨(some 9), (.binI .sub), [.t 8, .c (.i .u64 1)], none⟩,
   ⟨(some 2), .mv, [.t 9], none⟩] [2])
 .ret))

def d81 : DFun := ⟨1, 10, c81, [.t 2]⟩

theorem ok81 : Fok Tryd.prog 81 d81 := ⟨Tryd.f81, Tryd.func81, by kernel_rfl, by kernel_rfl⟩

-- bibelot/knight.Guards$1
def b82_0 : DC :=
 (.seq (.reg [⟨(some 44), (.binI .lss), [.t 43, .t 42], none⟩] [0, 3, 41, 42, 43, 44])
 (.seq (.cond (.t 44)
  .skip
  (.exit 0))
 (.seq (.block 1
  (.seq (.reg [⟨(some 45), (.ixS 1 false), [.t 41, .t 43], none⟩,
    ⟨(some 46), (.ld 1 false), [.t 45], none⟩,
    ⟨(some 8), .mv, [.t 46], none⟩] [0, 3, 8, 41, 42, 43])
  (.reg [⟨(some 47), (.ld 1 false), [.t 3], none⟩,
    ⟨(some 48), .mv, [.t 0], none⟩,
    ⟨(some 49), .mv, [.t 8], none⟩,
    ⟨(some 50), (.conv .u64), [.t 49], none⟩,
    ⟨(some 51), (.binI .shl), [.c (.i .u64 1), .t 50], none⟩,
    ⟨(some 52), (.binI .or), [.t 48, .t 51], none⟩,
    ⟨(some 53), (.call .sh), [.t 47, .t 52], none⟩] [0, 3, 41, 42, 43])))
 (.reg [⟨(some 54), (.binI .add), [.t 43, .c (.i .i64 1)], none⟩,
   ⟨(some 43), .mv, [.t 54], none⟩] [0, 3, 41, 42, 43]))))

def l82_1 : DC :=
 (.loop [0, 3, 41, 42, 43] b82_0)

def c82 : DC :=
 (.seq (.reg [⟨(some 9), (.ld 1 false), [.t 1], none⟩,
   ⟨(some 10), (.call (.pu [])), [.c (.fn 81 [] []), .t 9], none⟩,
   ⟨(some 11), (.ld 1 false), [.t 1], none⟩,
   ⟨(some 12), .mv, [.t 0], none⟩,
   ⟨(some 13), (.call (.pu [])), [.c (.fn 83 [] []), .t 11, .t 12], none⟩,
   ⟨(some 14), (.binI .andNot), [.t 10, .t 13], none⟩,
   ⟨(some 5), .mv, [.t 14], none⟩] [0, 1, 2, 3, 5])
 (.seq (.seq (.reg [⟨(some 15), .mv, [.t 5], none⟩,
   ⟨(some 16), (.binI .eql), [.t 15, .c (.i .u64 0)], none⟩] [0, 1, 2, 3, 5, 16])
 (.cond (.t 16)
  (.seq (.seq (.reg [⟨(some 17), .mv, [.t 0], none⟩,
    ⟨(some 18), (.call (.pu [])), [.c (.fn 70 [] []), .t 17], none⟩,
    ⟨(some 19), (.ld 1 false), [.t 2], none⟩,
    ⟨(some 20), (.call (.pu [])), [.c (.fn 70 [] []), .t 19], none⟩,
    ⟨(some 21), (.binI .lss), [.t 18, .t 20], none⟩] [0, 2, 21])
  (.cond (.t 21)
   (.reg [⟨(some 22), .mv, [.t 0], none⟩,
     ⟨none, (.st 1), [.t 2, .t 22], none⟩] [])
   .skip))
  .ret)
  .skip))
 (.seq (.seq (.reg [⟨(some 23), .mv, [.t 0], none⟩,
   ⟨(some 24), (.call (.pu [])), [.c (.fn 70 [] []), .t 23], none⟩,
   ⟨(some 25), (.binI .add), [.t 24, .c (.i .i64 1)], none⟩,
   ⟨(some 26), (.ld 1 false), [.t 2], none⟩,
   ⟨(some 27), (.call (.pu [])), [.c (.fn 70 [] []), .t 26], none⟩,
   ⟨(some 28), (.binI .geq), [.t 25, .t 27], none⟩] [0, 1, 3, 5, 28])
 (.cond (.t 28)
  .ret
  .skip))
 (.seq (.reg [⟨(some 29), .mv, [.t 5], none⟩,
   ⟨(some 30), (.call (.pu [])), [.c (.fn 84 [] []), .t 29], none⟩,
   ⟨(some 6), .mv, [.t 30], none⟩] [0, 1, 3, 6])
 (.seq (.reg [⟨(some 31), .mv, [.t 6], none⟩,
   ⟨(some 32), (.bsl false [(.i .i64 0)] false 1 [0]), [.t 31], none⟩,
   ⟨(some 33), (.ld 1 false), [.t 1], none⟩,
   ⟨(some 34), .mv, [.t 6], none⟩,
   ⟨(some 35), .nilck, [.t 33], none⟩,
   ⟨(some 36), (.fadr 3 36 true), [.t 35], none⟩,
   ⟨(some 37), (.ixA 36 1 false), [.t 36, .t 34], none⟩,
   ⟨(some 38), (.ld 1 false), [.t 37], none⟩,
   ⟨(some 39), (.call (.pu [])), [.c (.fn 64 [] []), .t 38], none⟩,
   ⟨(some 40), (.bsl false [.nilsl] false 2 [0, 1]), [.t 32, .t 39], none⟩,
   ⟨(some 41), (.call (.pu [])), [.c (.fn 85 [] []), .t 40], none⟩,
   ⟨(some 42), (.len 0), [.t 41], none⟩,
   ⟨(some 43), .mv, [.c (.i .i64 0)], none⟩] [0, 3, 41, 42, 43])
 (.block 0
  l82_1))))))

def d82 : DFun := ⟨4, 55, c82, []⟩

theorem ok82 : Fok Tryd.prog 82 d82 := ⟨Tryd.f82, Tryd.func82, by kernel_rfl, by kernel_rfl⟩

-- (*bibelot/knight.board).guarded
def c83 : DC :=
 (.seq (.reg [⟨(some 4), .mv, [.c (.i .u64 0)], none⟩] [0, 1])
 (.seq (.reg [⟨(some 5), .mv, [.t 1], none⟩,
   ⟨(some 6), .mv, [.t 0], none⟩,
   ⟨(some 7), .mv, [.t 1], none⟩,
   ⟨(some 8), (.call (.pu [])), [.c (.fn 71 [] []), .t 6, .t 7], none⟩,
   ⟨(some 9), (.binI .or), [.t 5, .t 8], none⟩,
   ⟨(some 4), .mv, [.t 9], none⟩] [4])
 .ret))

def d83 : DFun := ⟨2, 10, c83, [.t 4]⟩

theorem ok83 : Fok Tryd.prog 83 d83 := ⟨Tryd.f83, Tryd.func83, by kernel_rfl, by kernel_rfl⟩

-- math/bits.TrailingZeros64
def c84 : DC :=
 (.seq (.reg [⟨(some 2), .mv, [.c (.i .i64 0)], none⟩] [0])
 (.seq (.seq (.reg [⟨(some 3), .mv, [.t 0], none⟩,
   ⟨(some 4), (.binI .eql), [.t 3, .c (.i .u64 0)], none⟩] [0, 4])
 (.cond (.t 4)
  (.seq (.reg [⟨(some 2), .mv, [.c (.i .i64 64)], none⟩] [2])
  .ret)
  .skip))
 (.seq (.reg [⟨(some 5), .mv, [.t 0], none⟩,
   ⟨(some 6), .mv, [.t 0], none⟩,
   ⟨(some 7), (.negI .u64), [.t 6], none⟩,
   ⟨(some 8), (.binI .and), [.t 5, .t 7], none⟩,
   ⟨(some 9), (.binI .mul), [.t 8, .c (.i .u64 285870213051353865)], none⟩,
   ⟨(some 10), (.binI .shr), [.t 9, .c (.i .u64 58)], none⟩,
   ⟨(some 11), (.ixA 64 1 false), [.g 0, .t 10], none⟩,
   ⟨(some 12), (.ld 1 false), [.t 11], none⟩,
   ⟨(some 13), (.conv .i64), [.t 12], none⟩,
   ⟨(some 2), .mv, [.t 13], none⟩] [2])
 .ret)))

def d84 : DFun := ⟨1, 14, c84, [.t 2]⟩

theorem ok84 : Fok Tryd.prog 84 d84 := ⟨Tryd.f84, Tryd.func84, by kernel_rfl, by kernel_rfl⟩

-- slices.Concat[[]int,int]
def b85_0 : DC :=
 (.seq (.reg [⟨(some 12), (.binI .lss), [.t 11, .t 10], none⟩] [0, 3, 9, 10, 11, 12])
 (.seq (.cond (.t 12)
  .skip
  (.exit 0))
 (.seq (.block 1
  (.seq (.reg [⟨(some 13), (.ixS 1 false), [.t 9, .t 11], none⟩,
    ⟨(some 14), (.ld 1 false), [.t 13], none⟩,
    ⟨(some 5), .mv, [.t 14], none⟩] [0, 3, 5, 9, 10, 11])
  (.seq (.reg [⟨(some 15), .mv, [.t 3], none⟩,
    ⟨(some 16), .mv, [.t 5], none⟩,
    ⟨(some 17), (.len 0), [.t 16], none⟩,
    ⟨(some 18), (.binI .add), [.t 15, .t 17], none⟩,
    ⟨(some 3), .mv, [.t 18], none⟩] [0, 3, 9, 10, 11])
  (.seq (.reg [⟨(some 19), .mv, [.t 3], none⟩,
    ⟨(some 20), (.binI .lss), [.t 19, .c (.i .i64 0)], none⟩] [0, 3, 9, 10, 11, 20])
  (.cond (.t 20)
   (.reg [⟨(some 21), .never, [], none⟩,
     ⟨none, .never, [], none⟩] [0, 3, 9, 10, 11])
   .skip)))))
 (.reg [⟨(some 22), (.binI .add), [.t 11, .c (.i .i64 1)], none⟩,
   ⟨(some 11), .mv, [.t 22], none⟩] [0, 3, 9, 10, 11]))))

def l85_1 : DC :=
 (.loop [0, 3, 9, 10, 11] b85_0)

def b85_2 : DC :=
 (.seq (.reg [⟨(some 28), (.binI .lss), [.t 27, .t 26], none⟩] [6, 25, 26, 27, 28])
 (.seq (.cond (.t 28)
  .skip
  (.exit 2))
 (.seq (.block 3
  (.seq (.reg [⟨(some 29), (.ixS 1 false), [.t 25, .t 27], none⟩,
    ⟨(some 30), (.ld 1 false), [.t 29], none⟩,
    ⟨(some 8), .mv, [.t 30], none⟩] [6, 8, 25, 26, 27])
  (.reg [⟨(some 31), .mv, [.t 6], none⟩,
    ⟨(some 32), .mv, [.t 8], none⟩,
    ⟨(some 33), (.app 1 false 8), [.t 31, .t 32], none⟩,
    ⟨(some 6), .mv, [.t 33], none⟩] [6, 25, 26, 27])))
 (.reg [⟨(some 34), (.binI .add), [.t 27, .c (.i .i64 1)], none⟩,
   ⟨(some 27), .mv, [.t 34], none⟩] [6, 25, 26, 27]))))

def l85_3 : DC :=
 (.loop [6, 25, 26, 27] b85_2)

def c85 : DC :=
 (.seq (.reg [⟨(some 2), .mv, [.c .nilsl], none⟩] [0])
 (.seq (.reg [⟨(some 3), .mv, [.c (.i .i64 0)], none⟩] [0, 3])
 (.seq (.seq (.reg [⟨(some 9), .mv, [.t 0], none⟩,
   ⟨(some 10), (.len 0), [.t 9], none⟩,
   ⟨(some 11), .mv, [.c (.i .i64 0)], none⟩] [0, 3, 9, 10, 11])
 (.block 0
  l85_1))
 (.seq (.reg [⟨(some 23), .mv, [.t 3], none⟩,
   ⟨(some 24), (.call .sh), [.c (.fn 97 [] []), .c .nilsl, .t 23], none⟩,
   ⟨(some 6), .mv, [.t 24], none⟩] [0, 6])
 (.seq (.seq (.reg [⟨(some 25), .mv, [.t 0], none⟩,
   ⟨(some 26), (.len 0), [.t 25], none⟩,
   ⟨(some 27), .mv, [.c (.i .i64 0)], none⟩] [6, 25, 26, 27])
 (.block 2
  l85_3))
 (.seq (.reg [⟨(some 35), .mv, [.t 6], none⟩,
   ⟨(some 2), .mv, [.t 35], none⟩] [2])
 .ret))))))

def d85 : DFun := ⟨1, 36, c85, [.t 2]⟩

theorem ok85 : Fok Tryd.prog 85 d85 := ⟨Tryd.f85, Tryd.func85, by kernel_rfl, by kernel_rfl⟩

-- slices.ContainsFunc[[]int,int]
def c86 : DC :=
 (.seq (.reg [⟨(some 4), .mv, [.c (.b false)], none⟩] [0, 1])
 (.seq (.reg [⟨(some 5), .mv, [.t 0], none⟩,
   ⟨(some 6), .mv, [.t 1], none⟩,
   ⟨(some 7), (.call .sh), [.c (.fn 98 [] []), .t 5, .t 6], none⟩,
   ⟨(some 8), (.binI .geq), [.t 7, .c (.i .i64 0)], none⟩,
   ⟨(some 4), .mv, [.t 8], none⟩] [4])
 .ret))

def d86 : DFun := ⟨2, 9, c86, [.t 4]⟩

theorem ok86 : Fok Tryd.prog 86 d86 := ⟨Tryd.f86, Tryd.func86, by kernel_rfl, by kernel_rfl⟩

-- bibelot/knight.open$1
def c87 : DC :=
 (.seq (.reg [⟨(some 3), .mv, [.c (.b false)], none⟩] [0, 1])
 (.seq (.reg [⟨(some 4), .mv, [.t 0], none⟩,
   ⟨(some 5), (.binI .lss), [.t 4, .c (.i .i64 0)], none⟩,
   ⟨(some 6), .mv, [.t 5], none⟩,
   ⟨(some 7), .mv, [.t 0], (some (6, false))⟩,
   ⟨(some 8), (.ld 1 false), [.t 1], (some (6, false))⟩,
   ⟨(some 9), .nilck, [.t 8], (some (6, false))⟩,
   ⟨(some 10), (.fadr 2 1 false), [.t 9], (some (6, false))⟩,
   ⟨(some 11), (.ld 1 false), [.t 10], (some (6, false))⟩,
   ⟨(some 12), (.binI .geq), [.t 7, .t 11], (some (6, false))⟩,
   ⟨(some 13), .pick, [.t 6, .c (.b true), .t 12], none⟩,
   ⟨(some 3), .mv, [.t 13], none⟩] [3])
 .ret))

def d87 : DFun := ⟨2, 14, c87, [.t 3]⟩

theorem ok87 : Fok Tryd.prog 87 d87 := ⟨Tryd.f87, Tryd.func87, by kernel_rfl, by kernel_rfl⟩

-- (*bibelot/knight.board).tight$1
def c88 : DC :=
 (.seq (.reg [⟨(some 5), .mv, [.c (.b false)], none⟩] [0, 1, 2, 3])
 (.seq (.reg [⟨(some 6), .mv, [.t 0], none⟩,
   ⟨(some 7), (.binI .neq), [.t 6, .c (.i .u64 0)], none⟩,
   ⟨(some 8), .mv, [.t 7], none⟩,
   ⟨(some 9), (.ld 1 false), [.t 1], (some (8, true))⟩,
   ⟨(some 10), .mv, [.t 0], (some (8, true))⟩,
   ⟨(some 11), (.call (.pu [])), [.c (.fn 71 [] []), .t 9, .t 10], (some (8, true))⟩,
   ⟨(some 12), (.call (.pu [])), [.c (.fn 70 [] []), .t 11], (some (8, true))⟩,
   ⟨(some 13), .mv, [.t 0], (some (8, true))⟩,
   ⟨(some 14), (.call (.pu [])), [.c (.fn 70 [] []), .t 13], (some (8, true))⟩,
   ⟨(some 15), (.binI .leq), [.t 12, .t 14], (some (8, true))⟩,
   ⟨(some 16), .pick, [.t 8, .t 15, .c (.b false)], none⟩,
   ⟨(some 17), .mv, [.t 16], none⟩,
   ⟨(some 18), .mv, [.t 0], (some (17, true))⟩,
   ⟨(some 19), (.ld 1 false), [.t 2], (some (17, true))⟩,
   ⟨(some 20), (.binI .neq), [.t 18, .t 19], (some (17, true))⟩,
   ⟨(some 21), .mv, [.t 20], (some (17, true))⟩,
   ⟨(some 22), (.ld 1 false), [.t 3], (some (21, false))⟩,
   ⟨(some 23), (.call (.pu [])), [.c (.fn 70 [] []), .t 22], (some (21, false))⟩,
   ⟨(some 24), (.ld 1 false), [.t 2], (some (21, false))⟩,
   ⟨(some 25), (.call (.pu [])), [.c (.fn 70 [] []), .t 24], (some (21, false))⟩,
   ⟨(some 26), (.binI .lss), [.t 23, .t 25], (some (21, false))⟩,
   ⟨(some 27), .pick, [.t 21, .c (.b true), .t 26], (some (17, true))⟩,
   ⟨(some 28), .pick, [.t 17, .t 27, .c (.b false)], none⟩,
   ⟨(some 5), .mv, [.t 28], none⟩] [5])
 .ret))

def d88 : DFun := ⟨4, 29, c88, [.t 5]⟩

theorem ok88 : Fok Tryd.prog 88 d88 := ⟨Tryd.f88, Tryd.func88, by kernel_rfl, by kernel_rfl⟩

-- (*bibelot/knight.board).tour$1
def b89_0 : DC :=
 (.seq (.reg [⟨(some 59), (.binI .lss), [.t 58, .t 57], none⟩] [0, 5, 6, 7, 9, 56, 57, 58, 59])
 (.seq (.cond (.t 59)
  .skip
  (.exit 0))
 (.seq (.block 1
  (.seq (.reg [⟨(some 60), (.ixS 1 false), [.t 56, .t 58], none⟩,
    ⟨(some 61), (.ld 1 false), [.t 60], none⟩,
    ⟨(some 13), .mv, [.t 61], none⟩] [0, 5, 6, 7, 9, 13, 56, 57, 58])
  (.seq (.reg [⟨(some 62), (.ld 1 false), [.t 6], none⟩,
    ⟨(some 63), .mv, [.t 13], none⟩,
    ⟨(some 64), (.bsl false [(.i .i64 0)] false 1 [0]), [.t 63], none⟩,
    ⟨(some 65), (.app 1 false 8), [.t 62, .t 64], none⟩,
    ⟨none, (.st 1), [.t 6, .t 65], none⟩] [0, 5, 6, 7, 9, 13, 56, 57, 58])
  (.seq (.seq (.reg [⟨(some 66), (.ld 1 false), [.t 7], none⟩,
    ⟨(some 67), .mv, [.t 13], none⟩,
    ⟨(some 68), (.ld 1 false), [.t 9], none⟩,
    ⟨(some 69), .mv, [.t 13], none⟩,
    ⟨(some 70), (.conv .u64), [.t 69], none⟩,
    ⟨(some 71), (.binI .shl), [.c (.i .u64 1), .t 70], none⟩,
    ⟨(some 72), (.binI .andNot), [.t 68, .t 71], none⟩,
    ⟨(some 73), (.call .sh), [.t 66, .t 67, .t 72], none⟩] [0, 5, 6, 7, 9, 56, 57, 58, 73])
  (.cond (.t 73)
   (.seq (.reg [⟨(some 10), .mv, [.c (.b true)], none⟩] [10])
   .ret)
   .skip))
  (.reg [⟨(some 74), (.ld 1 false), [.t 6], none⟩,
    ⟨(some 75), (.ld 1 false), [.t 6], none⟩,
    ⟨(some 76), (.len 0), [.t 75], none⟩,
    ⟨(some 77), (.binI .sub), [.t 76, .c (.i .i64 1)], none⟩,
    ⟨(some 78), (.slc false true false 1 false), [.t 74, .t 77], none⟩,
    ⟨none, (.st 1), [.t 6, .t 78], none⟩] [0, 5, 6, 7, 9, 56, 57, 58])))))
 (.reg [⟨(some 79), (.binI .add), [.t 58, .c (.i .i64 1)], none⟩,
   ⟨(some 58), .mv, [.t 79], none⟩] [0, 5, 6, 7, 9, 56, 57, 58]))))

def l89_1 : DC :=
 (.loop [0, 5, 6, 7, 9, 56, 57, 58] b89_0)

def c89 : DC :=
 (.seq (.reg [⟨(some 9), (.box false), [.t 1], none⟩,
   ⟨(some 10), .mv, [.c (.b false)], none⟩] [0, 2, 3, 4, 5, 6, 7, 9])
 (.seq (.seq (.reg [⟨(some 14), (.ld 1 false), [.t 9], none⟩,
   ⟨(some 15), (.binI .eql), [.t 14, .c (.i .u64 0)], none⟩] [0, 2, 3, 4, 5, 6, 7, 9, 15])
 (.cond (.t 15)
  (.seq (.reg [⟨(some 16), (.ld 1 false), [.t 2], none⟩,
    ⟨(some 17), .notB, [.t 16], none⟩,
    ⟨(some 18), .mv, [.t 17], none⟩,
    ⟨(some 19), (.ld 1 false), [.t 3], (some (18, false))⟩,
    ⟨(some 20), .mv, [.t 0], (some (18, false))⟩,
    ⟨(some 21), .nilck, [.t 19], (some (18, false))⟩,
    ⟨(some 22), (.fadr 3 36 true), [.t 21], (some (18, false))⟩,
    ⟨(some 23), (.ixA 36 1 false), [.t 22, .t 20], (some (18, false))⟩,
    ⟨(some 24), (.ld 1 false), [.t 23], (some (18, false))⟩,
    ⟨(some 25), (.ld 1 false), [.t 4], (some (18, false))⟩,
    ⟨(some 26), (.conv .u64), [.t 25], (some (18, false))⟩,
    ⟨(some 27), (.binI .shr), [.t 24, .t 26], (some (18, false))⟩,
    ⟨(some 28), (.binI .and), [.t 27, .c (.i .u64 1)], (some (18, false))⟩,
    ⟨(some 29), (.binI .eql), [.t 28, .c (.i .u64 1)], (some (18, false))⟩,
    ⟨(some 30), .pick, [.t 18, .c (.b true), .t 29], none⟩,
    ⟨(some 10), .mv, [.t 30], none⟩] [10])
  .ret)
  .skip))
 (.seq (.seq (.reg [⟨(some 31), (.ld 1 false), [.t 5], none⟩,
   ⟨(some 32), .mv, [.t 0], none⟩,
   ⟨(some 33), (.ld 1 false), [.t 9], none⟩,
   ⟨(some 34), (.build [(.i .i64 0), (.i .u64 0)] [(0, 1), (1, 1)]), [.t 32, .t 33], none⟩,
   ⟨(some 35), (.lkp (.flat [true, true]) (.b false) false), [.t 31, .t 34], none⟩,
   ⟨(some 36), .mv, [.t 35], none⟩,
   ⟨(some 37), (.ld 1 false), [.t 3], (some (36, false))⟩,
   ⟨(some 38), .mv, [.t 0], (some (36, false))⟩,
   ⟨(some 39), (.ld 1 false), [.t 4], (some (36, false))⟩,
   ⟨(some 40), (.ld 1 false), [.t 9], (some (36, false))⟩,
   ⟨(some 41), (.ld 1 false), [.t 2], (some (36, false))⟩,
   ⟨(some 42), (.call (.pu [])), [.c (.fn 90 [] []), .t 37, .t 38, .t 39, .t 40, .t 41], (some (36, false))⟩,
   ⟨(some 43), .pick, [.t 36, .c (.b true), .t 42], none⟩] [0, 3, 5, 6, 7, 9, 43])
 (.cond (.t 43)
  (.seq (.reg [⟨(some 10), .mv, [.c (.b false)], none⟩] [10])
  .ret)
  .skip))
 (.seq (.reg [⟨(some 44), (.ld 1 false), [.t 3], none⟩,
   ⟨(some 45), .mv, [.t 0], none⟩,
   ⟨(some 46), .nilck, [.t 44], none⟩,
   ⟨(some 47), (.fadr 3 36 true), [.t 46], none⟩,
   ⟨(some 48), (.ixA 36 1 false), [.t 47, .t 45], none⟩,
   ⟨(some 49), (.ld 1 false), [.t 48], none⟩,
   ⟨(some 50), (.ld 1 false), [.t 9], none⟩,
   ⟨(some 51), (.binI .and), [.t 49, .t 50], none⟩,
   ⟨(some 52), (.call .sh), [.c (.fn 64 [] []), .t 51], none⟩,
   ⟨(some 11), .mv, [.t 52], none⟩] [0, 3, 5, 6, 7, 9, 11])
 (.seq (.reg [⟨(some 53), .mv, [.t 11], none⟩,
   ⟨(some 54), (.mkfn 92 0), [.t 3, .t 9], none⟩,
   ⟨(some 55), (.call .sh), [.c (.fn 91 [] []), .t 53, .t 54], none⟩] [0, 5, 6, 7, 9, 11])
 (.seq (.seq (.reg [⟨(some 56), .mv, [.t 11], none⟩,
   ⟨(some 57), (.len 0), [.t 56], none⟩,
   ⟨(some 58), .mv, [.c (.i .i64 0)], none⟩] [0, 5, 6, 7, 9, 56, 57, 58])
 (.block 0
  l89_1))
 (.seq (.reg [⟨(some 80), (.ld 1 false), [.t 5], none⟩,
   ⟨(some 81), .mv, [.t 0], none⟩,
   ⟨(some 82), (.ld 1 false), [.t 9], none⟩,
   ⟨(some 83), (.build [(.i .i64 0), (.i .u64 0)] [(0, 1), (1, 1)]), [.t 81, .t 82], none⟩,
   ⟨none, (.mset (.flat [true, true])), [.t 80, .t 83, .c (.b true)], none⟩] [])
 (.seq (.reg [⟨(some 10), .mv, [.c (.b false)], none⟩] [10])
 .ret))))))))

def d89 : DFun := ⟨8, 84, c89, [.t 10]⟩

theorem ok89 : Fok Tryd.prog 89 d89 := ⟨Tryd.f89, Tryd.func89, by kernel_rfl, by kernel_rfl⟩

-- (*bibelot/knight.board).hopeless
def a90_0 : DC :=
 (.reg [⟨(some 14), .mv, [.t 31], none⟩] [5, 10, 11, 12, 14])

def b90_1 : DC :=
 (.block 1
  (.seq (.reg [⟨(some 32), (.ld 1 false), [.t 5], none⟩,
    ⟨(some 33), .mv, [.t 14], none⟩,
    ⟨(some 34), .nilck, [.t 32], none⟩,
    ⟨(some 35), (.fadr 3 36 true), [.t 34], none⟩,
    ⟨(some 36), (.ixA 36 1 false), [.t 35, .t 33], none⟩,
    ⟨(some 37), (.ld 1 false), [.t 36], none⟩,
    ⟨(some 38), (.ld 1 false), [.t 12], none⟩,
    ⟨(some 39), (.binI .and), [.t 37, .t 38], none⟩,
    ⟨(some 40), (.call (.pu [])), [.c (.fn 70 [] []), .t 39], none⟩] [10, 11, 40])
  (.block 2
   (.seq (.reg [⟨(some 42), (.binI .eql), [.t 40, .c (.i .i64 0)], none⟩,
     ⟨(some 41), .mv, [.t 42], none⟩] [10, 11, 40, 41])
   (.cond (.t 41)
    (.seq (.reg [⟨none, (.st 1), [.t 10, .c (.b true)], none⟩] [])
    .ret)
    (.seq (.reg [⟨(some 44), (.binI .eql), [.t 40, .c (.i .i64 1)], none⟩,
      ⟨(some 43), .mv, [.t 44], none⟩] [11, 43])
    (.cond (.t 43)
     (.reg [⟨(some 45), (.ld 1 false), [.t 11], none⟩,
       ⟨(some 46), (.binI .add), [.t 45, .c (.i .i64 1)], none⟩,
       ⟨none, (.st 1), [.t 11, .t 46], none⟩] [])
     .skip)))))))

def b90_2 : DC :=
 (.block 4
  (.seq (.reg [⟨(some 53), .mv, [.t 15], none⟩,
    ⟨(some 54), (.ld 1 false), [.t 5], none⟩,
    ⟨(some 55), .mv, [.t 15], none⟩,
    ⟨(some 56), (.call (.pu [])), [.c (.fn 71 [] []), .t 54, .t 55], none⟩,
    ⟨(some 57), .mv, [.t 3], none⟩,
    ⟨(some 58), (.binI .and), [.t 56, .t 57], none⟩,
    ⟨(some 59), (.binI .or), [.t 53, .t 58], none⟩,
    ⟨(some 16), .mv, [.t 59], none⟩] [3, 5, 10, 15, 16])
  (.seq (.seq (.reg [⟨(some 60), .mv, [.t 16], none⟩,
    ⟨(some 61), .mv, [.t 15], none⟩,
    ⟨(some 62), (.binI .eql), [.t 60, .t 61], none⟩] [3, 5, 10, 15, 16, 62])
  (.cond (.t 62)
   (.exit 3)
   .skip))
  (.reg [⟨(some 63), .mv, [.t 16], none⟩,
    ⟨(some 15), .mv, [.t 63], none⟩] [3, 5, 10, 15]))))

def l90_3 : DC :=
 (.loop [3, 5, 10, 15] b90_2)

def c90 : DC :=
 (.seq (.reg [⟨(some 5), (.box false), [.t 0], none⟩,
   ⟨(some 10), (.alloc [(.b false)] false), [], none⟩] [1, 2, 3, 4, 5, 10])
 (.scope (.seq (.reg [⟨(some 11), (.alloc [(.i .i64 0)] false), [], none⟩,
   ⟨none, (.st 1), [.t 11, .c (.i .i64 0)], none⟩] [1, 2, 3, 4, 5, 10, 11])
 (.seq (.reg [⟨(some 17), .mv, [.t 3], none⟩,
   ⟨(some 18), .mv, [.t 1], none⟩,
   ⟨(some 19), (.conv .u64), [.t 18], none⟩,
   ⟨(some 20), (.binI .shl), [.c (.i .u64 1), .t 19], none⟩,
   ⟨(some 21), (.binI .or), [.t 17, .t 20], none⟩,
   ⟨(some 12), (.alloc [(.i .u64 0)] false), [], none⟩,
   ⟨none, (.st 1), [.t 12, .t 21], none⟩] [1, 2, 3, 4, 5, 10, 11, 12])
 (.seq (.seq (.reg [⟨(some 22), .mv, [.t 4], none⟩] [1, 2, 3, 4, 5, 10, 11, 12, 22])
 (.cond (.t 22)
  (.reg [⟨(some 23), (.ld 1 false), [.t 12], none⟩,
    ⟨(some 24), .mv, [.t 2], none⟩,
    ⟨(some 25), (.conv .u64), [.t 24], none⟩,
    ⟨(some 26), (.binI .shl), [.c (.i .u64 1), .t 25], none⟩,
    ⟨(some 27), (.binI .or), [.t 23, .t 26], none⟩,
    ⟨none, (.st 1), [.t 12, .t 27], none⟩] [1, 3, 4, 5, 10, 11, 12])
  .skip))
 (.seq (.reg [⟨(some 13), .mv, [.c (.i .i64 1)], none⟩] [1, 3, 4, 5, 10, 11, 12, 13])
 (.seq (.seq (.reg [⟨(some 28), .mv, [.t 4], none⟩] [1, 3, 5, 10, 11, 12, 13, 28])
 (.cond (.t 28)
  (.reg [⟨(some 13), .mv, [.c (.i .i64 0)], none⟩] [1, 3, 5, 10, 11, 12, 13])
  .skip))
 (.seq (.seq (.reg [⟨(some 29), .mv, [.t 3], none⟩,
   ⟨(some 30), (.call .sh), [.c (.fn 63 [] []), .t 29], none⟩] [1, 3, 5, 10, 11, 12, 13, 30])
 (.block 0
  (.rfunc (.t 30) [31] a90_0
   b90_1 [1, 3, 5, 10, 11, 12, 13])))
 (.seq (.seq (.reg [⟨(some 47), (.ld 1 false), [.t 11], none⟩,
   ⟨(some 48), .mv, [.t 13], none⟩,
   ⟨(some 49), (.binI .gtr), [.t 47, .t 48], none⟩] [1, 3, 5, 10, 49])
 (.cond (.t 49)
  (.seq (.reg [⟨none, (.st 1), [.t 10, .c (.b true)], none⟩] [10])
  .ret)
  .skip))
 (.seq (.reg [⟨(some 50), .mv, [.t 1], none⟩,
   ⟨(some 51), (.conv .u64), [.t 50], none⟩,
   ⟨(some 52), (.binI .shl), [.c (.i .u64 1), .t 51], none⟩,
   ⟨(some 15), .mv, [.t 52], none⟩] [3, 5, 10, 15])
 (.seq .skip
 (.seq (.block 3
  l90_3)
 (.seq (.reg [⟨(some 64), .mv, [.t 15], none⟩,
   ⟨(some 65), .mv, [.t 3], none⟩,
   ⟨(some 66), (.binI .and), [.t 64, .t 65], none⟩,
   ⟨(some 67), .mv, [.t 3], none⟩,
   ⟨(some 68), (.binI .neq), [.t 66, .t 67], none⟩,
   ⟨none, (.st 1), [.t 10, .t 68], none⟩] [10])
 .ret)))))))))))))

def d90 : DFun := ⟨5, 69, c90, [.c 10 1 false]⟩

theorem ok90 : Fok Tryd.prog 90 d90 := ⟨Tryd.f90, Tryd.func90, by kernel_rfl, by kernel_rfl⟩

-- slices.SortStableFunc[[]int,int]
def c91 : DC :=
 (.reg [⟨(some 4), .mv, [.t 0], none⟩,
   ⟨(some 5), .mv, [.t 0], none⟩,
   ⟨(some 6), (.len 0), [.t 5], none⟩,
   ⟨(some 7), .mv, [.t 1], none⟩,
   ⟨(some 8), (.call .sh), [.c (.fn 99 [] []), .t 4, .t 6, .t 7], none⟩] [])

def d91 : DFun := ⟨2, 9, c91, []⟩

theorem ok91 : Fok Tryd.prog 91 d91 := ⟨Tryd.f91, Tryd.func91, by kernel_rfl, by kernel_rfl⟩

-- (*bibelot/knight.board).tour$1$1
def c92 : DC :=
 (.seq (.reg [⟨(some 6), .mv, [.c (.i .i64 0)], none⟩] [0, 1, 2, 3])
 (.seq (.reg [⟨(some 7), (.ld 1 false), [.t 2], none⟩,
   ⟨(some 8), .mv, [.t 0], none⟩,
   ⟨(some 9), .nilck, [.t 7], none⟩,
   ⟨(some 10), (.fadr 3 36 true), [.t 9], none⟩,
   ⟨(some 11), (.ixA 36 1 false), [.t 10, .t 8], none⟩,
   ⟨(some 12), (.ld 1 false), [.t 11], none⟩,
   ⟨(some 13), (.ld 1 false), [.t 3], none⟩,
   ⟨(some 14), (.binI .and), [.t 12, .t 13], none⟩,
   ⟨(some 15), (.call (.pu [])), [.c (.fn 70 [] []), .t 14], none⟩,
   ⟨(some 16), (.ld 1 false), [.t 2], none⟩,
   ⟨(some 17), .mv, [.t 1], none⟩,
   ⟨(some 18), .nilck, [.t 16], none⟩,
   ⟨(some 19), (.fadr 3 36 true), [.t 18], none⟩,
   ⟨(some 20), (.ixA 36 1 false), [.t 19, .t 17], none⟩,
   ⟨(some 21), (.ld 1 false), [.t 20], none⟩,
   ⟨(some 22), (.ld 1 false), [.t 3], none⟩,
   ⟨(some 23), (.binI .and), [.t 21, .t 22], none⟩,
   ⟨(some 24), (.call (.pu [])), [.c (.fn 70 [] []), .t 23], none⟩,
   ⟨(some 25), (.binI .sub), [.t 15, .t 24], none⟩,
   ⟨(some 6), .mv, [.t 25], none⟩] [6])
 .ret))

def d92 : DFun := ⟨4, 26, c92, [.t 6]⟩

theorem ok92 : Fok Tryd.prog 92 d92 := ⟨Tryd.f92, Tryd.func92, by kernel_rfl, by kernel_rfl⟩

-- bibelot/knight.members$1
def b93_0 : DC :=
 (.seq (.seq (.reg [⟨(some 3), (.ld 1 false), [.t 1], none⟩,
   ⟨(some 4), (.binI .neq), [.t 3, .c (.i .u64 0)], none⟩] [0, 1, 4])
 (.cond (.t 4)
  .skip
  (.exit 0)))
 (.seq (.block 1
  (.seq (.reg [⟨(some 9), .mv, [.t 0], none⟩,
    ⟨(some 10), (.ld 1 false), [.t 1], none⟩,
    ⟨(some 11), (.call (.pu [])), [.c (.fn 84 [] []), .t 10], none⟩,
    ⟨(some 12), (.call .sh), [.t 9, .t 11], none⟩,
    ⟨(some 13), .notB, [.t 12], none⟩] [0, 1, 13])
  (.cond (.t 13)
   .ret
   .skip)))
 (.reg [⟨(some 5), (.ld 1 false), [.t 1], none⟩,
   ⟨(some 6), (.ld 1 false), [.t 1], none⟩,
   ⟨(some 7), (.binI .sub), [.t 6, .c (.i .u64 1)], none⟩,
   ⟨(some 8), (.binI .and), [.t 5, .t 7], none⟩,
   ⟨none, (.st 1), [.t 1, .t 8], none⟩] [0, 1])))

def l93_1 : DC :=
 (.loop [0, 1] b93_0)

def c93 : DC :=
 (.block 0
  l93_1)

def d93 : DFun := ⟨2, 14, c93, []⟩

theorem ok93 : Fok Tryd.prog 93 d93 := ⟨Tryd.f93, Tryd.func93, by kernel_rfl, by kernel_rfl⟩

-- bibelot/bibelotref06.augmented
def b95_0 : DC :=
 (.seq (.seq (.reg [⟨(some 10), .mv, [.t 5], none⟩,
   ⟨(some 11), (.binI .neq), [.t 10, .c (.i .u64 0)], none⟩] [0, 2, 4, 5, 6, 11])
 (.cond (.t 11)
  .skip
  (.exit 0)))
 (.seq (.block 1
  (.seq (.seq (.reg [⟨(some 14), .mv, [.t 0], none⟩,
    ⟨(some 15), .mv, [.t 6], none⟩,
    ⟨(some 16), .mv, [.t 5], none⟩,
    ⟨(some 17), (.call .sh), [.t 14, .t 15, .t 16], none⟩,
    ⟨(some 18), .notB, [.t 17], none⟩] [0, 2, 4, 5, 6, 18])
  (.cond (.t 18)
   .ret
   .skip))
  (.seq (.reg [⟨(some 19), .mv, [.t 4], none⟩,
    ⟨(some 20), .mv, [.t 5], none⟩,
    ⟨(some 21), (.binI .or), [.t 19, .t 20], none⟩,
    ⟨(some 4), .mv, [.t 21], none⟩] [0, 2, 4, 5, 6])
  (.reg [⟨(some 22), (.ld 1 false), [.t 2], none⟩,
    ⟨(some 23), .mv, [.t 5], none⟩,
    ⟨(some 24), (.call (.pu [])), [.c (.fn 71 [] []), .t 22, .t 23], none⟩,
    ⟨(some 25), .mv, [.t 4], none⟩,
    ⟨(some 26), (.binI .andNot), [.t 24, .t 25], none⟩,
    ⟨(some 5), .mv, [.t 26], none⟩] [0, 2, 4, 5, 6]))))
 (.reg [⟨(some 12), .mv, [.t 6], none⟩,
   ⟨(some 13), (.binI .add), [.t 12, .c (.i .i64 1)], none⟩,
   ⟨(some 6), .mv, [.t 13], none⟩] [0, 2, 4, 5, 6])))

def l95_1 : DC :=
 (.loop [0, 2, 4, 5, 6] b95_0)

def c95 : DC :=
 (.seq (.reg [⟨(some 7), (.ld 1 false), [.t 1], none⟩,
   ⟨(some 8), (.conv .u64), [.t 7], none⟩,
   ⟨(some 9), (.binI .shl), [.c (.i .u64 1), .t 8], none⟩,
   ⟨(some 4), .mv, [.c (.i .u64 0)], none⟩,
   ⟨(some 5), .mv, [.t 9], none⟩] [0, 2, 4, 5])
 (.seq (.reg [⟨(some 6), .mv, [.c (.i .i64 0)], none⟩] [0, 2, 4, 5, 6])
 (.block 0
  l95_1)))

def d95 : DFun := ⟨3, 27, c95, []⟩

theorem ok95 : Fok Tryd.prog 95 d95 := ⟨Tryd.f95, Tryd.func95, by kernel_rfl, by kernel_rfl⟩

-- (*bibelot/knight.pairing).grow
def a96_0 : DC :=
 (.reg [⟨(some 5), .mv, [.t 16], none⟩] [2, 3, 4, 5])

def b96_1 : DC :=
 (.block 1
  (.seq (.seq (.reg [⟨(some 17), (.ld 1 false), [.t 2], none⟩,
    ⟨(some 18), .nilck, [.t 17], none⟩,
    ⟨(some 19), (.fadr 37 1 false), [.t 18], none⟩,
    ⟨(some 20), (.ld 1 false), [.t 19], none⟩,
    ⟨(some 21), .mv, [.t 5], none⟩,
    ⟨(some 22), (.conv .u64), [.t 21], none⟩,
    ⟨(some 23), (.binI .shr), [.t 20, .t 22], none⟩,
    ⟨(some 24), (.binI .and), [.t 23, .c (.i .u64 1)], none⟩,
    ⟨(some 25), (.binI .eql), [.t 24, .c (.i .u64 1)], none⟩] [2, 3, 4, 5, 25])
  (.cond (.t 25)
   (.exit 1)
   .skip))
  (.seq (.reg [⟨(some 26), (.ld 1 false), [.t 2], none⟩,
    ⟨(some 27), .nilck, [.t 26], none⟩,
    ⟨(some 28), (.fadr 37 1 false), [.t 27], none⟩,
    ⟨(some 29), (.ld 1 false), [.t 28], none⟩,
    ⟨(some 30), .mv, [.t 5], none⟩,
    ⟨(some 31), (.conv .u64), [.t 30], none⟩,
    ⟨(some 32), (.binI .shl), [.c (.i .u64 1), .t 31], none⟩,
    ⟨(some 33), (.binI .or), [.t 29, .t 32], none⟩,
    ⟨(some 34), .nilck, [.t 26], none⟩,
    ⟨(some 35), (.fadr 37 1 false), [.t 34], none⟩,
    ⟨none, (.st 1), [.t 35, .t 33], none⟩] [2, 3, 4, 5])
  (.seq (.reg [⟨(some 36), (.ld 1 false), [.t 2], none⟩,
    ⟨(some 37), .mv, [.t 5], none⟩,
    ⟨(some 38), .nilck, [.t 36], none⟩,
    ⟨(some 39), (.fadr 1 36 true), [.t 38], none⟩,
    ⟨(some 40), (.ixA 36 1 false), [.t 39, .t 37], none⟩,
    ⟨(some 41), (.ld 1 false), [.t 40], none⟩,
    ⟨(some 42), (.binI .lss), [.t 41, .c (.i .i64 0)], none⟩,
    ⟨(some 43), .mv, [.t 42], none⟩,
    ⟨(some 44), (.ld 1 false), [.t 2], (some (43, false))⟩,
    ⟨(some 45), (.ld 1 false), [.t 2], (some (43, false))⟩,
    ⟨(some 46), .mv, [.t 5], (some (43, false))⟩,
    ⟨(some 47), .nilck, [.t 45], (some (43, false))⟩,
    ⟨(some 48), (.fadr 1 36 true), [.t 47], (some (43, false))⟩,
    ⟨(some 49), (.ixA 36 1 false), [.t 48, .t 46], (some (43, false))⟩,
    ⟨(some 50), (.ld 1 false), [.t 49], (some (43, false))⟩,
    ⟨(some 51), (.call .sh), [.c (.fn 96 [] []), .t 44, .t 50], (some (43, false))⟩,
    ⟨(some 52), .pick, [.t 43, .c (.b true), .t 51], none⟩] [2, 3, 4, 5, 52])
  (.cond (.t 52)
   (.seq (.regd [⟨(some 53), (.ld 1 false), [.t 2], none⟩,
     ⟨(some 54), (.ld 1 false), [.t 3], none⟩,
     ⟨(some 55), (.ld 1 false), [.t 2], none⟩,
     ⟨(some 56), .mv, [.t 5], none⟩,
     ⟨(some 57), .mv, [.t 5], none⟩,
     ⟨(some 58), (.ld 1 false), [.t 3], none⟩,
     ⟨(some 59), .nilck, [.t 53], none⟩,
     ⟨(some 60), (.fadr 1 36 true), [.t 59], none⟩,
     ⟨(some 61), (.ixA 36 1 false), [.t 60, .t 54], none⟩,
     ⟨none, (.st 1), [.t 61, .t 57], none⟩,
     ⟨(some 62), .nilck, [.t 55], none⟩,
     ⟨(some 63), (.fadr 1 36 true), [.t 62], none⟩,
     ⟨(some 64), (.ixA 36 1 false), [.t 63, .t 56], none⟩,
     ⟨none, (.st 1), [.t 64, .t 58], none⟩] [4] [(9, 2), (9, 5)])
   (.seq (.reg [⟨none, (.st 1), [.t 4, .c (.b true)], none⟩] [])
   .ret))
   .skip)))))

def c96 : DC :=
 (.seq (.reg [⟨(some 2), (.box false), [.t 0], none⟩,
   ⟨(some 3), (.box false), [.t 1], none⟩,
   ⟨(some 4), (.alloc [(.b false)] false), [], none⟩] [2, 3, 4])
 (.seq (.seq (.reg [⟨(some 6), (.ld 1 false), [.t 2], none⟩,
   ⟨(some 7), .nilck, [.t 6], none⟩,
   ⟨(some 8), (.fadr 0 1 false), [.t 7], none⟩,
   ⟨(some 9), (.ld 1 false), [.t 8], none⟩,
   ⟨(some 10), (.ld 1 false), [.t 3], none⟩,
   ⟨(some 11), .nilck, [.t 9], none⟩,
   ⟨(some 12), (.fadr 3 36 true), [.t 11], none⟩,
   ⟨(some 13), (.ixA 36 1 false), [.t 12, .t 10], none⟩,
   ⟨(some 14), (.ld 1 false), [.t 13], none⟩,
   ⟨(some 15), (.call .sh), [.c (.fn 63 [] []), .t 14], none⟩] [2, 3, 4, 15])
 (.block 0
  (.rfunc (.t 15) [16] a96_0
   b96_1 [2, 3, 4])))
 (.seq (.reg [⟨none, (.st 1), [.t 4, .c (.b false)], none⟩] [4])
 .ret)))

def d96 : DFun := ⟨2, 65, c96, [.c 4 1 false]⟩

theorem ok96 : Fok Tryd.prog 96 d96 := ⟨Tryd.f96, Tryd.func96, by kernel_rfl, by kernel_rfl⟩

end Go.Proofs.Tryd.Dn

