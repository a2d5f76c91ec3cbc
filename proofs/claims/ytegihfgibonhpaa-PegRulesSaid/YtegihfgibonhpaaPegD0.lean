import Derived.Test.YtegihfgibonhpaaProg
import Derived.Test.YtegihfgibonhpaaDc
set_option linter.unusedVariables false
set_option maxRecDepth 100000
namespace Go.Proofs.Try.Dn
open Go.Dn

-- bibelot/bibelotlaw02.PegSolves
def b3_0 : DC :=
 (.seq (.seq (.reg [⟨(some 95), .mv, [.t 10], none⟩,
   ⟨(some 96), .mv, [.t 9], none⟩,
   ⟨(some 97), (.ixS 1 false), [.t 95, .t 96], none⟩,
   ⟨(some 98), (.ld 1 false), [.t 97], none⟩,
   ⟨(some 99), .notB, [.t 98], none⟩] [0, 7, 8, 9, 10, 11, 99])
 (.cond (.t 99)
  .skip
  (.exit 2)))
 (.block 3
  (.reg [⟨(some 100), .mv, [.t 9], none⟩,
    ⟨(some 101), (.binI .add), [.t 100, .c (.i .i64 1)], none⟩,
    ⟨(some 102), .mv, [.t 0], none⟩,
    ⟨(some 103), (.binI .shl), [.c (.i .i64 1), .t 102], none⟩,
    ⟨(some 104), (.binI .rem), [.t 101, .t 103], none⟩,
    ⟨(some 9), .mv, [.t 104], none⟩] [0, 7, 8, 9, 10, 11])))

def l3_1 : DC :=
 (.loop [0, 7, 8, 9, 10, 11] b3_0)

def b3_2 : DC :=
 (.seq (.seq (.reg [⟨(some 41), .mv, [.t 11], none⟩,
   ⟨(some 42), (.binI .lss), [.t 41, .c (.i .i64 2)], none⟩] [0, 7, 8, 9, 10, 11, 42])
 (.cond (.t 42)
  .skip
  (.exit 0)))
 (.seq (.block 1
  (.seq (.reg [⟨(some 46), .mv, [.t 0], none⟩,
    ⟨(some 47), .mv, [.t 7], none⟩,
    ⟨(some 48), .mv, [.t 8], none⟩,
    ⟨(some 49), .mv, [.t 9], none⟩,
    ⟨(some 50), (.call (.pu [])), [.c (.fn 20 [] []), .t 46, .t 47, .t 48, .t 49], none⟩,
    ⟨(some 45), .mv, [.t 50], none⟩,
    ⟨(some 51), (.ext 0), [.t 45], none⟩,
    ⟨(some 52), (.ext 1), [.t 45], none⟩,
    ⟨(some 53), (.ext 2), [.t 45], none⟩,
    ⟨(some 12), .mv, [.t 51], none⟩,
    ⟨(some 13), .mv, [.t 52], none⟩,
    ⟨(some 14), .mv, [.t 53], none⟩] [0, 7, 8, 9, 10, 11, 12, 13, 14])
  (.seq (.seq (.reg [⟨(some 54), .mv, [.t 14], none⟩,
    ⟨(some 55), (.binI .neq), [.t 54, .c (.i .i64 0)], none⟩,
    ⟨(some 56), .mv, [.t 55], none⟩,
    ⟨(some 57), .mv, [.t 13], (some (56, false))⟩,
    ⟨(some 58), .mv, [.t 10], (some (56, false))⟩,
    ⟨(some 59), .mv, [.t 9], (some (56, false))⟩,
    ⟨(some 60), (.ixS 1 false), [.t 58, .t 59], (some (56, false))⟩,
    ⟨(some 61), (.ld 1 false), [.t 60], (some (56, false))⟩,
    ⟨(some 62), (.eqB true), [.t 57, .t 61], (some (56, false))⟩,
    ⟨(some 63), .pick, [.t 56, .c (.b true), .t 62], none⟩,
    ⟨(some 64), .mv, [.t 63], none⟩,
    ⟨(some 65), .mv, [.t 13], (some (64, false))⟩,
    ⟨(some 66), .notB, [.t 65], (some (64, false))⟩,
    ⟨(some 67), .mv, [.t 66], (some (64, false))⟩,
    ⟨(some 68), .mv, [.t 12], (some (67, true))⟩,
    ⟨(some 69), (.len 0), [.t 68], (some (67, true))⟩,
    ⟨(some 70), (.binI .neq), [.t 69, .c (.i .i64 0)], (some (67, true))⟩,
    ⟨(some 71), .pick, [.t 67, .t 70, .c (.b false)], (some (64, false))⟩,
    ⟨(some 72), .pick, [.t 64, .c (.b true), .t 71], none⟩,
    ⟨(some 73), .mv, [.t 72], none⟩,
    ⟨(some 74), .mv, [.t 12], (some (73, false))⟩,
    ⟨(some 75), (.len 0), [.t 74], (some (73, false))⟩,
    ⟨(some 76), (.binI .gtr), [.t 75, .c (.i .i64 16)], (some (73, false))⟩,
    ⟨(some 77), .pick, [.t 73, .c (.b true), .t 76], none⟩] [0, 7, 8, 9, 10, 11, 12, 13, 77])
  (.cond (.t 77)
   (.seq (.reg [⟨(some 6), .mv, [.c (.b false)], none⟩] [6])
   .ret)
   .skip))
  (.seq (.seq (.reg [⟨(some 79), .mv, [.t 7], none⟩,
    ⟨(some 80), .mv, [.t 8], none⟩,
    ⟨(some 81), .mv, [.t 12], none⟩,
    ⟨(some 82), (.call (.pu [])), [.c (.fn 21 [] []), .t 79, .t 80, .t 81], none⟩,
    ⟨(some 78), .mv, [.t 82], none⟩,
    ⟨(some 83), (.ext 0), [.t 78], none⟩,
    ⟨(some 84), (.ext 1), [.t 78], none⟩,
    ⟨(some 15), .mv, [.t 83], none⟩,
    ⟨(some 16), .mv, [.t 84], none⟩] [0, 7, 8, 9, 10, 11, 13, 15, 16])
  (.seq (.reg [⟨(some 85), .mv, [.t 13], none⟩,
    ⟨(some 86), .mv, [.t 85], none⟩,
    ⟨(some 87), .mv, [.t 16], (some (86, true))⟩,
    ⟨(some 88), .notB, [.t 87], (some (86, true))⟩,
    ⟨(some 89), .mv, [.t 88], (some (86, true))⟩,
    ⟨(some 90), .mv, [.t 15], (some (89, false))⟩,
    ⟨(some 91), .mv, [.t 9], (some (89, false))⟩,
    ⟨(some 92), (.binI .neq), [.t 90, .t 91], (some (89, false))⟩,
    ⟨(some 93), .pick, [.t 89, .c (.b true), .t 92], (some (86, true))⟩,
    ⟨(some 94), .pick, [.t 86, .t 93, .c (.b false)], none⟩] [0, 7, 8, 9, 10, 11, 94])
  (.cond (.t 94)
   (.seq (.reg [⟨(some 6), .mv, [.c (.b false)], none⟩] [6])
   .ret)
   .skip)))
  (.block 2
   l3_1)))))
 (.reg [⟨(some 43), .mv, [.t 11], none⟩,
   ⟨(some 44), (.binI .add), [.t 43, .c (.i .i64 1)], none⟩,
   ⟨(some 11), .mv, [.t 44], none⟩] [0, 7, 8, 9, 10, 11])))

def l3_3 : DC :=
 (.loop [0, 7, 8, 9, 10, 11] b3_2)

def c3 : DC :=
 (.seq (.reg [⟨(some 5), (.box true), [.t 2], none⟩,
   ⟨(some 6), .mv, [.c (.b false)], none⟩] [0, 1, 5])
 (.seq (.reg [⟨(some 18), .mv, [.t 0], none⟩,
   ⟨(some 19), .mv, [.t 1], none⟩,
   ⟨(some 20), (.call (.pu [])), [.c (.fn 18 [] []), .t 18, .t 19, .c (.i .i64 12), .c (.i .i64 20)], none⟩,
   ⟨(some 17), .mv, [.t 20], none⟩,
   ⟨(some 21), (.ext 0), [.t 17], none⟩,
   ⟨(some 22), (.ext 1), [.t 17], none⟩,
   ⟨(some 0), .mv, [.t 21], none⟩,
   ⟨(some 7), .mv, [.t 22], none⟩] [0, 5, 7])
 (.seq (.reg [⟨(some 23), (.ixA 2 1 false), [.t 5, .c (.i .i64 0)], none⟩,
   ⟨(some 24), (.ld 1 false), [.t 23], none⟩,
   ⟨(some 25), (.conv .u64), [.t 24], none⟩,
   ⟨(some 26), .mv, [.t 0], none⟩,
   ⟨(some 27), (.binI .shl), [.c (.i .u64 1), .t 26], none⟩,
   ⟨(some 28), (.binI .rem), [.t 25, .t 27], none⟩,
   ⟨(some 29), (.conv .i64), [.t 28], none⟩,
   ⟨(some 30), (.ixA 2 1 false), [.t 5, .c (.i .i64 1)], none⟩,
   ⟨(some 31), (.ld 1 false), [.t 30], none⟩,
   ⟨(some 32), (.conv .u64), [.t 31], none⟩,
   ⟨(some 33), .mv, [.t 0], none⟩,
   ⟨(some 34), (.binI .shl), [.c (.i .u64 1), .t 33], none⟩,
   ⟨(some 35), (.binI .rem), [.t 32, .t 34], none⟩,
   ⟨(some 36), (.conv .i64), [.t 35], none⟩,
   ⟨(some 8), .mv, [.t 29], none⟩,
   ⟨(some 9), .mv, [.t 36], none⟩] [0, 7, 8, 9])
 (.seq (.reg [⟨(some 37), .mv, [.t 0], none⟩,
   ⟨(some 38), .mv, [.t 7], none⟩,
   ⟨(some 39), .mv, [.t 8], none⟩,
   ⟨(some 40), (.call (.pu [])), [.c (.fn 19 [] []), .t 37, .t 38, .t 39], none⟩,
   ⟨(some 10), .mv, [.t 40], none⟩] [0, 7, 8, 9, 10])
 (.seq (.seq (.reg [⟨(some 11), .mv, [.c (.i .i64 0)], none⟩] [0, 7, 8, 9, 10, 11])
 (.block 0
  l3_3))
 (.seq (.reg [⟨(some 105), (.call (.pu [])), [.c (.fn 22 [] [])], none⟩,
   ⟨(some 6), .mv, [.t 105], none⟩] [6])
 .ret))))))

def d3 : DFun := ⟨3, 106, c3, [.t 6]⟩

theorem ok3 : Fok Try.prog 3 d3 := ⟨Try.f3, Try.func3, by kernel_rfl, by kernel_rfl⟩

-- bibelot/bibelotlaw02.PegReached
def b4_0 : DC :=
 (.seq (.seq (.reg [⟨(some 33), .mv, [.t 11], none⟩,
   ⟨(some 34), .mv, [.t 8], none⟩,
   ⟨(some 35), (.len 0), [.t 34], none⟩,
   ⟨(some 36), (.binI .lss), [.t 33, .t 35], none⟩] [0, 2, 7, 8, 9, 10, 11, 36])
 (.cond (.t 36)
  .skip
  (.exit 0)))
 (.seq (.block 1
  (.seq (.reg [⟨(some 39), .mv, [.t 8], none⟩,
    ⟨(some 40), .mv, [.t 11], none⟩,
    ⟨(some 41), (.ixS 1 false), [.t 39, .t 40], none⟩,
    ⟨(some 42), (.ld 1 false), [.t 41], none⟩] [0, 2, 7, 8, 9, 10, 11, 42])
  (.cond (.t 42)
   (.seq (.reg [⟨(some 43), .mv, [.t 9], none⟩,
     ⟨(some 44), .mv, [.t 11], none⟩,
     ⟨(some 45), (.bsl false [(.i .i64 0)] false 1 [0]), [.t 44], none⟩,
     ⟨(some 46), (.app 1 false 8), [.t 43, .t 45], none⟩,
     ⟨(some 9), .mv, [.t 46], none⟩] [0, 2, 7, 8, 9, 10, 11])
   (.reg [⟨(some 47), .mv, [.t 10], none⟩,
     ⟨(some 48), .mv, [.t 11], none⟩,
     ⟨(some 49), (.call (.pu [])), [.c (.fn 23 [] []), .t 48], none⟩,
     ⟨(some 50), .mnI, [.t 47, .t 49], none⟩,
     ⟨(some 10), .mv, [.t 50], none⟩] [0, 2, 7, 8, 9, 10, 11]))
   .skip)))
 (.reg [⟨(some 37), .mv, [.t 11], none⟩,
   ⟨(some 38), (.binI .add), [.t 37, .c (.i .i64 1)], none⟩,
   ⟨(some 11), .mv, [.t 38], none⟩] [0, 2, 7, 8, 9, 10, 11])))

def l4_1 : DC :=
 (.loop [0, 2, 7, 8, 9, 10, 11] b4_0)

def c4 : DC :=
 (.seq (.reg [⟨(some 6), .mv, [.c (.b false)], none⟩] [0, 1, 2])
 (.seq (.reg [⟨(some 17), .mv, [.t 0], none⟩,
   ⟨(some 18), .mv, [.t 1], none⟩,
   ⟨(some 19), (.call (.pu [])), [.c (.fn 18 [] []), .t 17, .t 18, .c (.i .i64 12), .c (.i .i64 20)], none⟩,
   ⟨(some 16), .mv, [.t 19], none⟩,
   ⟨(some 20), (.ext 0), [.t 16], none⟩,
   ⟨(some 21), (.ext 1), [.t 16], none⟩,
   ⟨(some 0), .mv, [.t 20], none⟩,
   ⟨(some 7), .mv, [.t 21], none⟩] [0, 2, 7])
 (.seq (.reg [⟨(some 22), .mv, [.t 2], none⟩,
   ⟨(some 23), (.conv .u64), [.t 22], none⟩,
   ⟨(some 24), .mv, [.t 0], none⟩,
   ⟨(some 25), (.binI .shl), [.c (.i .u64 1), .t 24], none⟩,
   ⟨(some 26), (.binI .rem), [.t 23, .t 25], none⟩,
   ⟨(some 27), (.conv .i64), [.t 26], none⟩,
   ⟨(some 2), .mv, [.t 27], none⟩] [0, 2, 7])
 (.seq (.reg [⟨(some 28), .mv, [.t 0], none⟩,
   ⟨(some 29), .mv, [.t 7], none⟩,
   ⟨(some 30), .mv, [.t 2], none⟩,
   ⟨(some 31), (.call (.pu [])), [.c (.fn 19 [] []), .t 28, .t 29, .t 30], none⟩,
   ⟨(some 8), .mv, [.t 31], none⟩] [0, 2, 7, 8])
 (.seq (.reg [⟨(some 9), .mv, [.c .nilsl], none⟩] [0, 2, 7, 8, 9])
 (.seq (.reg [⟨(some 32), .mv, [.t 0], none⟩,
   ⟨(some 10), .mv, [.t 32], none⟩] [0, 2, 7, 8, 9, 10])
 (.seq (.seq (.reg [⟨(some 11), .mv, [.c (.i .i64 0)], none⟩] [0, 2, 7, 8, 9, 10, 11])
 (.block 0
  l4_1))
 (.seq (.reg [⟨(some 52), .mv, [.t 0], none⟩,
   ⟨(some 53), .mv, [.t 7], none⟩,
   ⟨(some 54), .mv, [.t 2], none⟩,
   ⟨(some 55), (.call (.pu [])), [.c (.fn 24 [] []), .t 52, .t 53, .t 54], none⟩,
   ⟨(some 51), .mv, [.t 55], none⟩,
   ⟨(some 56), (.ext 0), [.t 51], none⟩,
   ⟨(some 57), (.ext 1), [.t 51], none⟩,
   ⟨(some 12), .mv, [.t 56], none⟩,
   ⟨(some 13), .mv, [.t 57], none⟩] [0, 2, 7, 9, 10, 12, 13])
 (.seq (.reg [⟨(some 59), .mv, [.t 0], none⟩,
   ⟨(some 60), .mv, [.t 7], none⟩,
   ⟨(some 61), .mv, [.t 2], none⟩,
   ⟨(some 62), (.call (.pu [])), [.c (.fn 25 [] []), .t 59, .t 60, .t 61], none⟩,
   ⟨(some 58), .mv, [.t 62], none⟩,
   ⟨(some 63), (.ext 0), [.t 58], none⟩,
   ⟨(some 64), (.ext 1), [.t 58], none⟩,
   ⟨(some 14), .mv, [.t 63], none⟩,
   ⟨(some 15), .mv, [.t 64], none⟩] [9, 10, 12, 13, 14, 15])
 (.seq (.reg [⟨(some 65), .mv, [.t 13], none⟩,
   ⟨(some 66), (.binI .eql), [.t 65, .c (.i .i64 0)], none⟩,
   ⟨(some 67), .mv, [.t 66], none⟩,
   ⟨(some 68), .mv, [.t 12], (some (67, true))⟩,
   ⟨(some 69), .mv, [.t 9], (some (67, true))⟩,
   ⟨(some 70), (.call (.pu [])), [.c (.fn 26 [] []), .t 68, .t 69], (some (67, true))⟩,
   ⟨(some 71), .pick, [.t 67, .t 70, .c (.b false)], none⟩,
   ⟨(some 72), .mv, [.t 71], none⟩,
   ⟨(some 73), .mv, [.t 15], (some (72, true))⟩,
   ⟨(some 74), (.binI .eql), [.t 73, .c (.i .i64 0)], (some (72, true))⟩,
   ⟨(some 75), .pick, [.t 72, .t 74, .c (.b false)], none⟩,
   ⟨(some 76), .mv, [.t 75], none⟩,
   ⟨(some 77), .mv, [.t 14], (some (76, true))⟩,
   ⟨(some 78), .mv, [.t 10], (some (76, true))⟩,
   ⟨(some 79), (.binI .eql), [.t 77, .t 78], (some (76, true))⟩,
   ⟨(some 80), .pick, [.t 76, .t 79, .c (.b false)], none⟩,
   ⟨(some 81), .mv, [.t 80], none⟩,
   ⟨(some 82), (.call (.pu [])), [.c (.fn 22 [] [])], (some (81, true))⟩,
   ⟨(some 83), .pick, [.t 81, .t 82, .c (.b false)], none⟩,
   ⟨(some 6), .mv, [.t 83], none⟩] [6])
 .ret))))))))))

def d4 : DFun := ⟨3, 84, c4, [.t 6]⟩

theorem ok4 : Fok Try.prog 4 d4 := ⟨Try.f4, Try.func4, by kernel_rfl, by kernel_rfl⟩

-- bibelot/bibelotlaw02.PegRules
def c5 : DC :=
 (.seq (.reg [⟨(some 5), (.box true), [.t 2], none⟩,
   ⟨(some 6), .mv, [.c (.b false)], none⟩] [0, 1, 5])
 (.seq (.reg [⟨(some 15), .mv, [.t 0], none⟩,
   ⟨(some 16), .mv, [.t 1], none⟩,
   ⟨(some 17), (.call (.pu [])), [.c (.fn 18 [] []), .t 15, .t 16, .c (.i .i64 12), .c (.i .i64 40)], none⟩,
   ⟨(some 14), .mv, [.t 17], none⟩,
   ⟨(some 18), (.ext 0), [.t 14], none⟩,
   ⟨(some 19), (.ext 1), [.t 14], none⟩,
   ⟨(some 0), .mv, [.t 18], none⟩,
   ⟨(some 7), .mv, [.t 19], none⟩] [0, 5, 7])
 (.seq (.reg [⟨(some 20), (.ixA 2 1 false), [.t 5, .c (.i .i64 0)], none⟩,
   ⟨(some 21), (.ld 1 false), [.t 20], none⟩,
   ⟨(some 22), (.conv .u64), [.t 21], none⟩,
   ⟨(some 23), .mv, [.t 0], none⟩,
   ⟨(some 24), (.binI .shl), [.c (.i .u64 1), .t 23], none⟩,
   ⟨(some 25), (.binI .rem), [.t 22, .t 24], none⟩,
   ⟨(some 26), (.conv .i64), [.t 25], none⟩,
   ⟨(some 27), (.ixA 2 1 false), [.t 5, .c (.i .i64 1)], none⟩,
   ⟨(some 28), (.ld 1 false), [.t 27], none⟩,
   ⟨(some 29), (.conv .u64), [.t 28], none⟩,
   ⟨(some 30), .mv, [.t 0], none⟩,
   ⟨(some 31), (.binI .shl), [.c (.i .u64 1), .t 30], none⟩,
   ⟨(some 32), (.binI .rem), [.t 29, .t 31], none⟩,
   ⟨(some 33), (.conv .i64), [.t 32], none⟩,
   ⟨(some 8), .mv, [.t 26], none⟩,
   ⟨(some 9), .mv, [.t 33], none⟩] [0, 7, 8, 9])
 (.seq (.reg [⟨(some 35), .mv, [.t 0], none⟩,
   ⟨(some 36), .mv, [.t 7], none⟩,
   ⟨(some 37), (.call (.pu [])), [.c (.fn 27 [] []), .t 35, .t 36], none⟩,
   ⟨(some 34), .mv, [.t 37], none⟩,
   ⟨(some 38), (.ext 0), [.t 34], none⟩,
   ⟨(some 39), (.ext 1), [.t 34], none⟩,
   ⟨(some 10), .mv, [.t 38], none⟩,
   ⟨(some 11), .mv, [.t 39], none⟩] [0, 7, 8, 9, 10, 11])
 (.seq (.reg [⟨(some 41), .mv, [.t 0], none⟩,
   ⟨(some 42), .mv, [.t 7], none⟩,
   ⟨(some 43), .mv, [.t 8], none⟩,
   ⟨(some 44), .mv, [.t 9], none⟩,
   ⟨(some 45), (.call (.pu [])), [.c (.fn 28 [] []), .t 41, .t 42, .t 43, .t 44], none⟩,
   ⟨(some 40), .mv, [.t 45], none⟩,
   ⟨(some 46), (.ext 0), [.t 40], none⟩,
   ⟨(some 47), (.ext 1), [.t 40], none⟩,
   ⟨(some 12), .mv, [.t 46], none⟩,
   ⟨(some 13), .mv, [.t 47], none⟩] [0, 7, 8, 9, 10, 11, 12, 13])
 (.seq (.reg [⟨(some 48), .mv, [.t 11], none⟩,
   ⟨(some 49), (.binI .eql), [.t 48, .c (.i .i64 0)], none⟩,
   ⟨(some 50), .mv, [.t 49], none⟩,
   ⟨(some 51), .mv, [.t 10], (some (50, true))⟩,
   ⟨(some 52), .mv, [.t 0], (some (50, true))⟩,
   ⟨(some 53), .mv, [.t 7], (some (50, true))⟩,
   ⟨(some 54), (.call (.pu [])), [.c (.fn 29 [] []), .t 52, .t 53], (some (50, true))⟩,
   ⟨(some 55), (.call (.pu [])), [.c (.fn 26 [] []), .t 51, .t 54], (some (50, true))⟩,
   ⟨(some 56), .pick, [.t 50, .t 55, .c (.b false)], none⟩,
   ⟨(some 57), .mv, [.t 56], none⟩,
   ⟨(some 58), .mv, [.t 13], (some (57, true))⟩,
   ⟨(some 59), (.binI .eql), [.t 58, .c (.i .i64 0)], (some (57, true))⟩,
   ⟨(some 60), .pick, [.t 57, .t 59, .c (.b false)], none⟩,
   ⟨(some 61), .mv, [.t 60], none⟩,
   ⟨(some 62), .mv, [.t 12], (some (61, true))⟩,
   ⟨(some 63), .mv, [.t 0], (some (61, true))⟩,
   ⟨(some 64), .mv, [.t 7], (some (61, true))⟩,
   ⟨(some 65), .mv, [.t 8], (some (61, true))⟩,
   ⟨(some 66), .mv, [.t 9], (some (61, true))⟩,
   ⟨(some 67), (.call (.pu [])), [.c (.fn 30 [] []), .t 63, .t 64, .t 65, .t 66], (some (61, true))⟩,
   ⟨(some 68), (.eqB false), [.t 62, .t 67], (some (61, true))⟩,
   ⟨(some 69), .pick, [.t 61, .t 68, .c (.b false)], none⟩,
   ⟨(some 70), .mv, [.t 69], none⟩,
   ⟨(some 71), (.call (.pu [])), [.c (.fn 22 [] [])], (some (70, true))⟩,
   ⟨(some 72), .pick, [.t 70, .t 71, .c (.b false)], none⟩,
   ⟨(some 6), .mv, [.t 72], none⟩] [6])
 .ret))))))

def d5 : DFun := ⟨3, 73, c5, [.t 6]⟩

theorem ok5 : Fok Try.prog 5 d5 := ⟨Try.f5, Try.func5, by kernel_rfl, by kernel_rfl⟩

-- bibelot/bibelotlaw02.PegBack
def b6_0 : DC :=
 (.seq (.seq (.reg [⟨(some 59), .mv, [.t 13], none⟩,
   ⟨(some 60), (.binI .lss), [.t 59, .c (.i .i64 2)], none⟩] [0, 5, 7, 8, 9, 10, 11, 13, 60])
 (.cond (.t 60)
  .skip
  (.exit 0)))
 (.seq (.block 1
  (.seq (.reg [⟨(some 64), .mv, [.t 0], none⟩,
    ⟨(some 65), .mv, [.t 7], none⟩,
    ⟨(some 66), .mv, [.t 9], none⟩,
    ⟨(some 67), .mv, [.t 10], none⟩,
    ⟨(some 68), (.call (.pu [])), [.c (.fn 20 [] []), .t 64, .t 65, .t 66, .t 67], none⟩,
    ⟨(some 63), .mv, [.t 68], none⟩,
    ⟨(some 69), (.ext 0), [.t 63], none⟩,
    ⟨(some 70), (.ext 1), [.t 63], none⟩,
    ⟨(some 71), (.ext 2), [.t 63], none⟩,
    ⟨(some 14), .mv, [.t 69], none⟩,
    ⟨(some 15), .mv, [.t 70], none⟩,
    ⟨(some 16), .mv, [.t 71], none⟩] [0, 5, 7, 8, 9, 10, 11, 13, 15, 16])
  (.seq (.reg [⟨(some 73), .mv, [.t 0], none⟩,
    ⟨(some 74), .mv, [.t 7], none⟩,
    ⟨(some 75), .mv, [.t 8], none⟩,
    ⟨(some 76), .mv, [.t 10], none⟩,
    ⟨(some 77), (.binI .andNot), [.t 75, .t 76], none⟩,
    ⟨(some 78), .mv, [.t 8], none⟩,
    ⟨(some 79), .mv, [.t 9], none⟩,
    ⟨(some 80), (.binI .andNot), [.t 78, .t 79], none⟩,
    ⟨(some 81), (.call (.pu [])), [.c (.fn 20 [] []), .t 73, .t 74, .t 77, .t 80], none⟩,
    ⟨(some 72), .mv, [.t 81], none⟩,
    ⟨(some 82), (.ext 0), [.t 72], none⟩,
    ⟨(some 83), (.ext 1), [.t 72], none⟩,
    ⟨(some 84), (.ext 2), [.t 72], none⟩,
    ⟨(some 17), .mv, [.t 82], none⟩,
    ⟨(some 18), .mv, [.t 83], none⟩,
    ⟨(some 19), .mv, [.t 84], none⟩] [0, 5, 7, 8, 9, 11, 13, 15, 16, 18, 19])
  (.seq (.seq (.reg [⟨(some 85), .mv, [.t 16], none⟩,
    ⟨(some 86), (.binI .neq), [.t 85, .c (.i .i64 0)], none⟩,
    ⟨(some 87), .mv, [.t 86], none⟩,
    ⟨(some 88), .mv, [.t 19], (some (87, false))⟩,
    ⟨(some 89), (.binI .neq), [.t 88, .c (.i .i64 0)], (some (87, false))⟩,
    ⟨(some 90), .pick, [.t 87, .c (.b true), .t 89], none⟩,
    ⟨(some 91), .mv, [.t 90], none⟩,
    ⟨(some 92), .mv, [.t 15], (some (91, false))⟩,
    ⟨(some 93), .mv, [.t 18], (some (91, false))⟩,
    ⟨(some 94), (.eqB true), [.t 92, .t 93], (some (91, false))⟩,
    ⟨(some 95), .pick, [.t 91, .c (.b true), .t 94], none⟩] [0, 5, 7, 8, 9, 11, 13, 95])
  (.cond (.t 95)
   (.seq (.reg [⟨(some 6), .mv, [.c (.b false)], none⟩] [6])
   .ret)
   .skip))
  (.seq (.reg [⟨(some 96), .mv, [.t 11], none⟩,
    ⟨(some 97), (.ixA 2 1 false), [.t 5, .c (.i .i64 1)], none⟩,
    ⟨(some 98), (.ld 1 false), [.t 97], none⟩,
    ⟨(some 99), (.conv .u64), [.t 98], none⟩,
    ⟨(some 100), .mv, [.t 11], none⟩,
    ⟨(some 101), (.len 0), [.t 100], none⟩,
    ⟨(some 102), (.conv .u64), [.t 101], none⟩,
    ⟨(some 103), (.binI .rem), [.t 99, .t 102], none⟩,
    ⟨(some 104), (.conv .i64), [.t 103], none⟩,
    ⟨(some 105), (.ixS 1 false), [.t 96, .t 104], none⟩,
    ⟨(some 106), (.ld 1 false), [.t 105], none⟩,
    ⟨(some 10), .mv, [.t 106], none⟩] [0, 5, 7, 8, 9, 10, 11, 13])
  (.seq (.reg [⟨(some 107), .mv, [.t 10], none⟩,
    ⟨(some 108), (.binI .lss), [.t 107, .c (.i .i64 0)], none⟩,
    ⟨(some 109), .mv, [.t 108], none⟩,
    ⟨(some 110), .mv, [.t 10], (some (109, false))⟩,
    ⟨(some 111), .mv, [.t 8], (some (109, false))⟩,
    ⟨(some 112), (.binI .gtr), [.t 110, .t 111], (some (109, false))⟩,
    ⟨(some 113), .pick, [.t 109, .c (.b true), .t 112], none⟩] [0, 5, 7, 8, 9, 10, 11, 13, 113])
  (.cond (.t 113)
   (.seq (.reg [⟨(some 6), .mv, [.c (.b false)], none⟩] [6])
   .ret)
   .skip)))))))
 (.reg [⟨(some 61), .mv, [.t 13], none⟩,
   ⟨(some 62), (.binI .add), [.t 61, .c (.i .i64 1)], none⟩,
   ⟨(some 13), .mv, [.t 62], none⟩] [0, 5, 7, 8, 9, 10, 11, 13])))

def l6_1 : DC :=
 (.loop [0, 5, 7, 8, 9, 10, 11, 13] b6_0)

def c6 : DC :=
 (.seq (.reg [⟨(some 5), (.box true), [.t 2], none⟩,
   ⟨(some 6), .mv, [.c (.b false)], none⟩] [0, 1, 5])
 (.seq (.reg [⟨(some 21), .mv, [.t 0], none⟩,
   ⟨(some 22), .mv, [.t 1], none⟩,
   ⟨(some 23), (.call (.pu [])), [.c (.fn 18 [] []), .t 21, .t 22, .c (.i .i64 12), .c (.i .i64 20)], none⟩,
   ⟨(some 20), .mv, [.t 23], none⟩,
   ⟨(some 24), (.ext 0), [.t 20], none⟩,
   ⟨(some 25), (.ext 1), [.t 20], none⟩,
   ⟨(some 0), .mv, [.t 24], none⟩,
   ⟨(some 7), .mv, [.t 25], none⟩] [0, 5, 7])
 (.seq (.reg [⟨(some 26), .mv, [.t 0], none⟩,
   ⟨(some 27), (.binI .shl), [.c (.i .i64 1), .t 26], none⟩,
   ⟨(some 28), (.binI .sub), [.t 27, .c (.i .i64 1)], none⟩,
   ⟨(some 8), .mv, [.t 28], none⟩] [0, 5, 7, 8])
 (.seq (.reg [⟨(some 29), (.ixA 2 1 false), [.t 5, .c (.i .i64 0)], none⟩,
   ⟨(some 30), (.ld 1 false), [.t 29], none⟩,
   ⟨(some 31), (.conv .u64), [.t 30], none⟩,
   ⟨(some 32), .mv, [.t 8], none⟩,
   ⟨(some 33), (.binI .add), [.t 32, .c (.i .i64 1)], none⟩,
   ⟨(some 34), (.conv .u64), [.t 33], none⟩,
   ⟨(some 35), (.binI .rem), [.t 31, .t 34], none⟩,
   ⟨(some 36), (.conv .i64), [.t 35], none⟩,
   ⟨(some 37), (.ixA 2 1 false), [.t 5, .c (.i .i64 1)], none⟩,
   ⟨(some 38), (.ld 1 false), [.t 37], none⟩,
   ⟨(some 39), (.conv .u64), [.t 38], none⟩,
   ⟨(some 40), .mv, [.t 8], none⟩,
   ⟨(some 41), (.binI .add), [.t 40, .c (.i .i64 1)], none⟩,
   ⟨(some 42), (.conv .u64), [.t 41], none⟩,
   ⟨(some 43), (.binI .rem), [.t 39, .t 42], none⟩,
   ⟨(some 44), (.conv .i64), [.t 43], none⟩,
   ⟨(some 9), .mv, [.t 36], none⟩,
   ⟨(some 10), .mv, [.t 44], none⟩] [0, 5, 7, 8, 9, 10])
 (.seq (.reg [⟨(some 46), .mv, [.t 0], none⟩,
   ⟨(some 47), .mv, [.t 7], none⟩,
   ⟨(some 48), .mv, [.t 9], none⟩,
   ⟨(some 49), (.call (.pu [])), [.c (.fn 24 [] []), .t 46, .t 47, .t 48], none⟩,
   ⟨(some 45), .mv, [.t 49], none⟩,
   ⟨(some 50), (.ext 0), [.t 45], none⟩,
   ⟨(some 51), (.ext 1), [.t 45], none⟩,
   ⟨(some 11), .mv, [.t 50], none⟩,
   ⟨(some 12), .mv, [.t 51], none⟩] [0, 5, 7, 8, 9, 10, 11, 12])
 (.seq (.seq (.reg [⟨(some 52), .mv, [.t 12], none⟩,
   ⟨(some 53), (.binI .neq), [.t 52, .c (.i .i64 0)], none⟩,
   ⟨(some 54), .mv, [.t 53], none⟩,
   ⟨(some 55), .mv, [.t 11], (some (54, false))⟩,
   ⟨(some 56), (.len 0), [.t 55], (some (54, false))⟩,
   ⟨(some 57), (.binI .lss), [.t 56, .c (.i .i64 1)], (some (54, false))⟩,
   ⟨(some 58), .pick, [.t 54, .c (.b true), .t 57], none⟩] [0, 5, 7, 8, 9, 10, 11, 58])
 (.cond (.t 58)
  (.seq (.reg [⟨(some 6), .mv, [.c (.b false)], none⟩] [6])
  .ret)
  .skip))
 (.seq (.seq (.reg [⟨(some 13), .mv, [.c (.i .i64 0)], none⟩] [0, 5, 7, 8, 9, 10, 11, 13])
 (.block 0
  l6_1))
 (.seq (.reg [⟨(some 114), (.call (.pu [])), [.c (.fn 22 [] [])], none⟩,
   ⟨(some 6), .mv, [.t 114], none⟩] [6])
 .ret))))))))

def d6 : DFun := ⟨3, 115, c6, [.t 6]⟩

theorem ok6 : Fok Try.prog 6 d6 := ⟨Try.f6, Try.func6, by kernel_rfl, by kernel_rfl⟩

-- bibelot/bibelotlaw02.PegReiss
def b7_0 : DC :=
 (.seq (.seq (.reg [⟨(some 17), .mv, [.t 4], none⟩,
   ⟨(some 18), (.binI .add), [.t 17, .c (.i .i64 2)], none⟩,
   ⟨(some 19), .mv, [.t 0], none⟩,
   ⟨(some 20), (.binI .lss), [.t 18, .t 19], none⟩] [0, 3, 4, 20])
 (.cond (.t 20)
  .skip
  (.exit 0)))
 (.seq (.block 1
  (.reg [⟨(some 23), .mv, [.t 3], none⟩,
    ⟨(some 24), .mv, [.t 4], none⟩,
    ⟨(some 25), .mv, [.t 4], none⟩,
    ⟨(some 26), (.binI .add), [.t 25, .c (.i .i64 1)], none⟩,
    ⟨(some 27), .mv, [.t 4], none⟩,
    ⟨(some 28), (.binI .add), [.t 27, .c (.i .i64 2)], none⟩,
    ⟨(some 29), (.build [(.i .i64 0), (.i .i64 0), (.i .i64 0)] [(0, 1), (1, 1), (2, 1)]), [.t 24, .t 26, .t 28], none⟩,
    ⟨(some 30), (.bsl false [(.i .i64 0), (.i .i64 0), (.i .i64 0)] true 1 [0]), [.t 29], none⟩,
    ⟨(some 31), (.app 3 true 24), [.t 23, .t 30], none⟩,
    ⟨(some 3), .mv, [.t 31], none⟩] [0, 3, 4]))
 (.reg [⟨(some 21), .mv, [.t 4], none⟩,
   ⟨(some 22), (.binI .add), [.t 21, .c (.i .i64 1)], none⟩,
   ⟨(some 4), .mv, [.t 22], none⟩] [0, 3, 4])))

def l7_1 : DC :=
 (.loop [0, 3, 4] b7_0)

def b7_2 : DC :=
 (.seq (.seq (.reg [⟨(some 60), .mv, [.t 8], none⟩,
   ⟨(some 61), (.binI .add), [.t 60, .c (.i .i64 2)], none⟩,
   ⟨(some 62), .mv, [.t 0], none⟩,
   ⟨(some 63), (.binI .lss), [.t 61, .t 62], none⟩] [0, 7, 8, 63])
 (.cond (.t 63)
  .skip
  (.exit 2)))
 (.seq (.block 3
  (.reg [⟨(some 66), .mv, [.t 7], none⟩,
    ⟨(some 67), .mv, [.t 8], none⟩,
    ⟨(some 68), .mv, [.t 8], none⟩,
    ⟨(some 69), (.binI .add), [.t 68, .c (.i .i64 1)], none⟩,
    ⟨(some 70), .mv, [.t 8], none⟩,
    ⟨(some 71), (.binI .add), [.t 70, .c (.i .i64 2)], none⟩,
    ⟨(some 72), (.build [(.i .i64 0), (.i .i64 0), (.i .i64 0)] [(0, 1), (1, 1), (2, 1)]), [.t 67, .t 69, .t 71], none⟩,
    ⟨(some 73), (.bsl false [(.i .i64 0), (.i .i64 0), (.i .i64 0)] true 1 [0]), [.t 72], none⟩,
    ⟨(some 74), (.app 3 true 24), [.t 66, .t 73], none⟩,
    ⟨(some 7), .mv, [.t 74], none⟩] [0, 7, 8]))
 (.reg [⟨(some 64), .mv, [.t 8], none⟩,
   ⟨(some 65), (.binI .add), [.t 64, .c (.i .i64 1)], none⟩,
   ⟨(some 8), .mv, [.t 65], none⟩] [0, 7, 8])))

def l7_3 : DC :=
 (.loop [0, 7, 8] b7_2)

def c7 : DC :=
 (.seq (.reg [⟨(some 2), .mv, [.c (.b false)], none⟩] [0])
 (.seq (.reg [⟨(some 12), .mv, [.t 0], none⟩,
   ⟨(some 13), (.conv .u64), [.t 12], none⟩,
   ⟨(some 14), (.binI .rem), [.t 13, .c (.i .u64 16)], none⟩,
   ⟨(some 15), (.conv .i64), [.t 14], none⟩,
   ⟨(some 16), (.binI .add), [.c (.i .i64 1), .t 15], none⟩,
   ⟨(some 0), .mv, [.t 16], none⟩] [0])
 (.seq (.reg [⟨(some 3), .mv, [.c .nilsl], none⟩] [0, 3])
 (.seq (.seq (.reg [⟨(some 4), .mv, [.c (.i .i64 0)], none⟩] [0, 3, 4])
 (.block 0
  l7_1))
 (.seq (.reg [⟨(some 33), .mv, [.t 0], none⟩,
   ⟨(some 34), .mv, [.t 3], none⟩,
   ⟨(some 35), (.call (.pu [])), [.c (.fn 27 [] []), .t 33, .t 34], none⟩,
   ⟨(some 32), .mv, [.t 35], none⟩,
   ⟨(some 36), (.ext 0), [.t 32], none⟩,
   ⟨(some 37), (.ext 1), [.t 32], none⟩,
   ⟨(some 5), .mv, [.t 36], none⟩,
   ⟨(some 6), .mv, [.t 37], none⟩] [0, 5, 6])
 (.seq (.seq (.reg [⟨(some 38), .mv, [.t 6], none⟩,
   ⟨(some 39), (.binI .neq), [.t 38, .c (.i .i64 0)], none⟩,
   ⟨(some 40), .mv, [.t 39], none⟩,
   ⟨(some 41), .mv, [.t 5], (some (40, false))⟩,
   ⟨(some 42), (.len 0), [.t 41], (some (40, false))⟩,
   ⟨(some 43), .mv, [.t 0], (some (40, false))⟩,
   ⟨(some 44), .mnI, [.t 43, .c (.i .i64 2)], (some (40, false))⟩,
   ⟨(some 45), (.binI .neq), [.t 42, .t 44], (some (40, false))⟩,
   ⟨(some 46), .pick, [.t 40, .c (.b true), .t 45], none⟩] [0, 46])
 (.cond (.t 46)
  (.seq (.reg [⟨(some 2), .mv, [.c (.b false)], none⟩] [2])
  .ret)
  .skip))
 (.seq (.seq (.reg [⟨(some 47), .mv, [.t 0], none⟩,
   ⟨(some 48), (.binI .lss), [.t 47, .c (.i .i64 5)], none⟩] [0, 48])
 (.cond (.t 48)
  (.seq (.reg [⟨(some 49), (.call (.pu [])), [.c (.fn 22 [] [])], none⟩,
    ⟨(some 2), .mv, [.t 49], none⟩] [2])
  .ret)
  .skip))
 (.seq (.reg [⟨(some 50), (.build [(.i .i64 0), (.i .i64 0), (.i .i64 0)] [(0, 1), (1, 1), (2, 1)]), [.c (.i .i64 0), .c (.i .i64 1), .c (.i .i64 2)], none⟩,
   ⟨(some 51), .mv, [.t 0], none⟩,
   ⟨(some 52), (.binI .sub), [.t 51, .c (.i .i64 1)], none⟩,
   ⟨(some 53), .mv, [.t 0], none⟩,
   ⟨(some 54), (.binI .sub), [.t 53, .c (.i .i64 2)], none⟩,
   ⟨(some 55), (.build [(.i .i64 0), (.i .i64 0), (.i .i64 0)] [(0, 1), (1, 1), (2, 1)]), [.c (.i .i64 0), .t 52, .t 54], none⟩,
   ⟨(some 56), .mv, [.t 0], none⟩,
   ⟨(some 57), (.binI .sub), [.t 56, .c (.i .i64 1)], none⟩,
   ⟨(some 58), (.build [(.i .i64 0), (.i .i64 0), (.i .i64 0)] [(0, 1), (1, 1), (2, 1)]), [.c (.i .i64 1), .c (.i .i64 0), .t 57], none⟩,
   ⟨(some 59), (.bsl false [(.i .i64 0), (.i .i64 0), (.i .i64 0)] true 3 [0, 1, 2]), [.t 50, .t 55, .t 58], none⟩,
   ⟨(some 7), .mv, [.t 59], none⟩] [0, 7])
 (.seq (.seq (.reg [⟨(some 8), .mv, [.c (.i .i64 1)], none⟩] [0, 7, 8])
 (.block 2
  l7_3))
 (.seq (.reg [⟨(some 76), .mv, [.t 0], none⟩,
   ⟨(some 77), .mv, [.t 7], none⟩,
   ⟨(some 78), (.call (.pu [])), [.c (.fn 27 [] []), .t 76, .t 77], none⟩,
   ⟨(some 75), .mv, [.t 78], none⟩,
   ⟨(some 79), (.ext 0), [.t 75], none⟩,
   ⟨(some 80), (.ext 1), [.t 75], none⟩,
   ⟨(some 9), .mv, [.t 79], none⟩,
   ⟨(some 10), .mv, [.t 80], none⟩] [0, 9, 10])
 (.seq (.reg [⟨(some 11), .mv, [.c (.i .i64 0)], none⟩] [0, 9, 10, 11])
 (.seq (.seq (.reg [⟨(some 81), .mv, [.t 0], none⟩,
   ⟨(some 82), (.binI .rem), [.t 81, .c (.i .i64 3)], none⟩,
   ⟨(some 83), (.binI .eql), [.t 82, .c (.i .i64 0)], none⟩] [9, 10, 11, 83])
 (.cond (.t 83)
  (.reg [⟨(some 11), .mv, [.c (.i .i64 2)], none⟩] [9, 10, 11])
  .skip))
 (.seq (.reg [⟨(some 84), .mv, [.t 10], none⟩,
   ⟨(some 85), (.binI .eql), [.t 84, .c (.i .i64 0)], none⟩,
   ⟨(some 86), .mv, [.t 85], none⟩,
   ⟨(some 87), .mv, [.t 9], (some (86, true))⟩,
   ⟨(some 88), (.len 0), [.t 87], (some (86, true))⟩,
   ⟨(some 89), .mv, [.t 11], (some (86, true))⟩,
   ⟨(some 90), (.binI .eql), [.t 88, .t 89], (some (86, true))⟩,
   ⟨(some 91), .pick, [.t 86, .t 90, .c (.b false)], none⟩,
   ⟨(some 92), .mv, [.t 91], none⟩,
   ⟨(some 93), (.call (.pu [])), [.c (.fn 22 [] [])], (some (92, true))⟩,
   ⟨(some 94), .pick, [.t 92, .t 93, .c (.b false)], none⟩,
   ⟨(some 2), .mv, [.t 94], none⟩] [2])
 .ret)))))))))))))

def d7 : DFun := ⟨1, 95, c7, [.t 2]⟩

theorem ok7 : Fok Try.prog 7 d7 := ⟨Try.f7, Try.func7, by kernel_rfl, by kernel_rfl⟩

-- bibelot/bibelotlaw02.PegWeights
def b8_0 : DC :=
 (.seq (.seq (.reg [⟨(some 110), .mv, [.t 16], none⟩,
   ⟨(some 111), .mv, [.t 10], none⟩,
   ⟨(some 112), (.len 0), [.t 111], none⟩,
   ⟨(some 113), (.binI .lss), [.t 110, .t 112], none⟩] [0, 7, 8, 9, 10, 11, 16, 113])
 (.cond (.t 113)
  .skip
  (.exit 2)))
 (.seq (.block 3
  (.reg [⟨(some 116), .mv, [.t 10], none⟩,
    ⟨(some 117), .mv, [.t 16], none⟩,
    ⟨(some 118), .mv, [.t 10], none⟩,
    ⟨(some 119), .mv, [.t 16], none⟩,
    ⟨(some 120), (.ixS 1 false), [.t 118, .t 119], none⟩,
    ⟨(some 121), (.ld 1 false), [.t 120], none⟩,
    ⟨(some 122), (.conv .u64), [.t 121], none⟩,
    ⟨(some 123), (.binI .rem), [.t 122, .c (.i .u64 5)], none⟩,
    ⟨(some 124), (.conv .i64), [.t 123], none⟩,
    ⟨(some 125), (.binI .sub), [.t 124, .c (.i .i64 1)], none⟩,
    ⟨(some 126), (.ixS 1 false), [.t 116, .t 117], none⟩,
    ⟨none, (.st 1), [.t 126, .t 125], none⟩] [0, 7, 8, 9, 10, 11, 16]))
 (.reg [⟨(some 114), .mv, [.t 16], none⟩,
   ⟨(some 115), (.binI .add), [.t 114, .c (.i .i64 1)], none⟩,
   ⟨(some 16), .mv, [.t 115], none⟩] [0, 7, 8, 9, 10, 11, 16])))

def l8_1 : DC :=
 (.loop [0, 7, 8, 9, 10, 11, 16] b8_0)

def b8_2 : DC :=
 (.seq (.seq (.reg [⟨(some 127), .mv, [.t 10], none⟩,
   ⟨(some 128), (.len 0), [.t 127], none⟩,
   ⟨(some 129), .mv, [.t 0], none⟩,
   ⟨(some 130), (.binI .lss), [.t 128, .t 129], none⟩] [0, 7, 8, 9, 10, 11, 130])
 (.cond (.t 130)
  .skip
  (.exit 4)))
 (.block 5
  (.reg [⟨(some 131), .mv, [.t 10], none⟩,
    ⟨(some 132), (.bsl false [(.i .i64 0)] false 1 [0]), [.c (.i .i64 1)], none⟩,
    ⟨(some 133), (.app 1 false 8), [.t 131, .t 132], none⟩,
    ⟨(some 10), .mv, [.t 133], none⟩] [0, 7, 8, 9, 10, 11])))

def l8_3 : DC :=
 (.loop [0, 7, 8, 9, 10, 11] b8_2)

def b8_4 : DC :=
 (.seq (.seq (.reg [⟨(some 46), .mv, [.t 11], none⟩,
   ⟨(some 47), (.binI .lss), [.t 46, .c (.i .i64 2)], none⟩] [0, 7, 8, 9, 10, 11, 47])
 (.cond (.t 47)
  .skip
  (.exit 0)))
 (.seq (.block 1
  (.seq (.reg [⟨(some 51), .mv, [.t 0], none⟩,
    ⟨(some 52), .mv, [.t 7], none⟩,
    ⟨(some 53), .mv, [.t 10], none⟩,
    ⟨(some 54), (.call (.pu [])), [.c (.fn 31 [] []), .t 51, .t 52, .t 53], none⟩,
    ⟨(some 50), .mv, [.t 54], none⟩,
    ⟨(some 55), (.ext 0), [.t 50], none⟩,
    ⟨(some 56), (.ext 1), [.t 50], none⟩,
    ⟨(some 12), .mv, [.t 55], none⟩,
    ⟨(some 13), .mv, [.t 56], none⟩] [0, 7, 8, 9, 10, 11, 12, 13])
  (.seq (.reg [⟨(some 58), .mv, [.t 0], none⟩,
    ⟨(some 59), .mv, [.t 7], none⟩,
    ⟨(some 60), .mv, [.t 8], none⟩,
    ⟨(some 61), .mv, [.t 9], none⟩,
    ⟨(some 62), .mv, [.t 10], none⟩,
    ⟨(some 63), (.call (.pu [])), [.c (.fn 32 [] []), .t 58, .t 59, .t 60, .t 61, .t 62], none⟩,
    ⟨(some 57), .mv, [.t 63], none⟩,
    ⟨(some 64), (.ext 0), [.t 57], none⟩,
    ⟨(some 65), (.ext 1), [.t 57], none⟩,
    ⟨(some 14), .mv, [.t 64], none⟩,
    ⟨(some 15), .mv, [.t 65], none⟩] [0, 7, 8, 9, 10, 11, 12, 13, 14, 15])
  (.seq (.seq (.reg [⟨(some 66), .mv, [.t 0], none⟩,
    ⟨(some 67), .mv, [.t 10], none⟩,
    ⟨(some 68), (.call (.pu [])), [.c (.fn 33 [] []), .t 66, .t 67], none⟩,
    ⟨(some 69), .notB, [.t 68], none⟩] [0, 7, 8, 9, 10, 11, 12, 13, 14, 15, 69])
  (.cond (.t 69)
   (.seq (.reg [⟨(some 70), .mv, [.t 13], none⟩,
     ⟨(some 71), (.binI .neq), [.t 70, .c (.i .i64 1)], none⟩,
     ⟨(some 72), .mv, [.t 71], none⟩,
     ⟨(some 73), .mv, [.t 15], (some (72, false))⟩,
     ⟨(some 74), (.binI .neq), [.t 73, .c (.i .i64 1)], (some (72, false))⟩,
     ⟨(some 75), .pick, [.t 72, .c (.b true), .t 74], none⟩,
     ⟨(some 76), .mv, [.t 75], none⟩,
     ⟨(some 77), .mv, [.t 12], (some (76, false))⟩,
     ⟨(some 78), .pick, [.t 76, .c (.b true), .t 77], none⟩,
     ⟨(some 79), .mv, [.t 78], none⟩,
     ⟨(some 80), .mv, [.t 14], (some (79, false))⟩,
     ⟨(some 81), .pick, [.t 79, .c (.b true), .t 80], none⟩] [0, 7, 8, 9, 10, 11, 81])
   (.cond (.t 81)
    (.seq (.reg [⟨(some 6), .mv, [.c (.b false)], none⟩] [6])
    .ret)
    .skip))
   (.seq (.reg [⟨(some 82), .mv, [.t 13], none⟩,
     ⟨(some 83), (.binI .neq), [.t 82, .c (.i .i64 0)], none⟩,
     ⟨(some 84), .mv, [.t 83], none⟩,
     ⟨(some 85), .mv, [.t 15], (some (84, false))⟩,
     ⟨(some 86), (.binI .neq), [.t 85, .c (.i .i64 0)], (some (84, false))⟩,
     ⟨(some 87), .pick, [.t 84, .c (.b true), .t 86], none⟩,
     ⟨(some 88), .mv, [.t 87], none⟩,
     ⟨(some 89), .mv, [.t 12], (some (88, false))⟩,
     ⟨(some 90), .mv, [.t 7], (some (88, false))⟩,
     ⟨(some 91), .mv, [.t 10], (some (88, false))⟩,
     ⟨(some 92), (.call (.pu [])), [.c (.fn 34 [] []), .t 90, .t 91], (some (88, false))⟩,
     ⟨(some 93), (.eqB true), [.t 89, .t 92], (some (88, false))⟩,
     ⟨(some 94), .pick, [.t 88, .c (.b true), .t 93], none⟩,
     ⟨(some 95), .mv, [.t 94], none⟩,
     ⟨(some 96), .mv, [.t 14], (some (95, false))⟩,
     ⟨(some 97), .mv, [.t 7], (some (95, false))⟩,
     ⟨(some 98), .mv, [.t 8], (some (95, false))⟩,
     ⟨(some 99), .mv, [.t 9], (some (95, false))⟩,
     ⟨(some 100), .mv, [.t 10], (some (95, false))⟩,
     ⟨(some 101), (.call (.pu [])), [.c (.fn 35 [] []), .t 97, .t 98, .t 99, .t 100], (some (95, false))⟩,
     ⟨(some 102), (.eqB true), [.t 96, .t 101], (some (95, false))⟩,
     ⟨(some 103), .pick, [.t 95, .c (.b true), .t 102], none⟩] [0, 7, 8, 9, 10, 11, 103])
   (.cond (.t 103)
    (.seq (.reg [⟨(some 6), .mv, [.c (.b false)], none⟩] [6])
    .ret)
    .skip))))
  (.seq (.reg [⟨(some 104), .mv, [.t 10], none⟩,
    ⟨(some 105), .mv, [.t 10], none⟩,
    ⟨(some 106), (.len 0), [.t 105], none⟩,
    ⟨(some 107), .mv, [.t 0], none⟩,
    ⟨(some 108), .mnI, [.t 106, .t 107], none⟩,
    ⟨(some 109), (.slc false true false 1 false), [.t 104, .t 108], none⟩,
    ⟨(some 10), .mv, [.t 109], none⟩] [0, 7, 8, 9, 10, 11])
  (.seq (.seq (.reg [⟨(some 16), .mv, [.c (.i .i64 0)], none⟩] [0, 7, 8, 9, 10, 11, 16])
  (.block 2
   l8_1))
  (.block 4
   l8_3)))))))
 (.reg [⟨(some 48), .mv, [.t 11], none⟩,
   ⟨(some 49), (.binI .add), [.t 48, .c (.i .i64 1)], none⟩,
   ⟨(some 11), .mv, [.t 49], none⟩] [0, 7, 8, 9, 10, 11])))

def l8_5 : DC :=
 (.loop [0, 7, 8, 9, 10, 11] b8_4)

def c8 : DC :=
 (.seq (.reg [⟨(some 5), (.box true), [.t 2], none⟩,
   ⟨(some 6), .mv, [.c (.b false)], none⟩] [0, 1, 5])
 (.seq (.reg [⟨(some 18), .mv, [.t 0], none⟩,
   ⟨(some 19), .mv, [.t 1], none⟩,
   ⟨(some 20), (.call (.pu [])), [.c (.fn 18 [] []), .t 18, .t 19, .c (.i .i64 16), .c (.i .i64 20)], none⟩,
   ⟨(some 17), .mv, [.t 20], none⟩,
   ⟨(some 21), (.ext 0), [.t 17], none⟩,
   ⟨(some 22), (.ext 1), [.t 17], none⟩,
   ⟨(some 0), .mv, [.t 21], none⟩,
   ⟨(some 7), .mv, [.t 22], none⟩] [0, 5, 7])
 (.seq (.reg [⟨(some 23), (.fadr 0 1 false), [.t 5], none⟩,
   ⟨(some 24), (.ld 1 false), [.t 23], none⟩,
   ⟨(some 25), (.conv .u64), [.t 24], none⟩,
   ⟨(some 26), .mv, [.t 0], none⟩,
   ⟨(some 27), (.binI .shl), [.c (.i .u64 1), .t 26], none⟩,
   ⟨(some 28), (.binI .rem), [.t 25, .t 27], none⟩,
   ⟨(some 29), (.conv .i64), [.t 28], none⟩,
   ⟨(some 30), (.fadr 1 1 false), [.t 5], none⟩,
   ⟨(some 31), (.ld 1 false), [.t 30], none⟩,
   ⟨(some 32), (.conv .u64), [.t 31], none⟩,
   ⟨(some 33), .mv, [.t 0], none⟩,
   ⟨(some 34), (.binI .shl), [.c (.i .u64 1), .t 33], none⟩,
   ⟨(some 35), (.binI .rem), [.t 32, .t 34], none⟩,
   ⟨(some 36), (.conv .i64), [.t 35], none⟩,
   ⟨(some 8), .mv, [.t 29], none⟩,
   ⟨(some 9), .mv, [.t 36], none⟩] [0, 5, 7, 8, 9])
 (.seq (.reg [⟨(some 10), .mv, [.c .nilsl], none⟩] [0, 5, 7, 8, 9, 10])
 (.seq (.reg [⟨(some 37), .mv, [.t 10], none⟩,
   ⟨(some 38), (.fadr 2 1 false), [.t 5], none⟩,
   ⟨(some 39), (.ld 1 false), [.t 38], none⟩,
   ⟨(some 40), (.fadr 2 1 false), [.t 5], none⟩,
   ⟨(some 41), (.ld 1 false), [.t 40], none⟩,
   ⟨(some 42), (.len 0), [.t 41], none⟩,
   ⟨(some 43), .mnI, [.t 42, .c (.i .i64 17)], none⟩,
   ⟨(some 44), (.slc false true false 1 false), [.t 39, .t 43], none⟩,
   ⟨(some 45), (.app 1 false 8), [.t 37, .t 44], none⟩,
   ⟨(some 10), .mv, [.t 45], none⟩] [0, 7, 8, 9, 10])
 (.seq (.seq (.reg [⟨(some 11), .mv, [.c (.i .i64 0)], none⟩] [0, 7, 8, 9, 10, 11])
 (.block 0
  l8_5))
 (.seq (.reg [⟨(some 134), (.call (.pu [])), [.c (.fn 22 [] [])], none⟩,
   ⟨(some 6), .mv, [.t 134], none⟩] [6])
 .ret)))))))

def d8 : DFun := ⟨3, 135, c8, [.t 6]⟩

theorem ok8 : Fok Try.prog 8 d8 := ⟨Try.f8, Try.func8, by kernel_rfl, by kernel_rfl⟩

-- bibelot/bibelotlaw02.PegDrafts
def b9_0 : DC :=
 (.seq (.seq (.reg [⟨(some 92), .mv, [.t 16], none⟩,
   ⟨(some 93), .mv, [.t 7], none⟩,
   ⟨(some 94), (.len 0), [.t 93], none⟩,
   ⟨(some 95), (.binI .lss), [.t 92, .t 94], none⟩] [0, 5, 7, 8, 11, 12, 13, 15, 16, 95])
 (.cond (.t 95)
  .skip
  (.exit 2)))
 (.seq (.block 3
  (.seq (.seq (.reg [⟨(some 98), .mv, [.t 7], none⟩,
    ⟨(some 99), .mv, [.t 16], none⟩,
    ⟨(some 100), (.ixS 3 true), [.t 98, .t 99], none⟩,
    ⟨(some 101), (.ld 3 true), [.t 100], none⟩,
    ⟨(some 102), (.ld 3 true), [.t 15], none⟩,
    ⟨(some 103), (.eqA false [true, true, true]), [.t 101, .t 102], none⟩] [0, 5, 7, 8, 11, 12, 13, 15, 16, 103])
  (.cond (.t 103)
   (.reg [⟨(some 104), .mv, [.t 11], none⟩,
     ⟨(some 105), .mv, [.t 16], none⟩,
     ⟨(some 106), (.ixS 2 true), [.t 104, .t 105], none⟩,
     ⟨(some 107), (.ixA 2 1 false), [.t 106, .c (.i .i64 0)], none⟩,
     ⟨(some 108), (.ld 1 false), [.t 107], none⟩,
     ⟨(some 109), (.binI .add), [.t 108, .c (.i .i64 1)], none⟩,
     ⟨(some 110), (.ixS 2 true), [.t 104, .t 105], none⟩,
     ⟨(some 111), (.ixA 2 1 false), [.t 110, .c (.i .i64 0)], none⟩,
     ⟨none, (.st 1), [.t 111, .t 109], none⟩] [0, 5, 7, 8, 11, 12, 13, 15, 16])
   .skip))
  (.seq (.reg [⟨(some 112), .mv, [.t 7], none⟩,
    ⟨(some 113), .mv, [.t 16], none⟩,
    ⟨(some 114), (.ixS 3 true), [.t 112, .t 113], none⟩,
    ⟨(some 115), (.ld 3 true), [.t 114], none⟩,
    ⟨(some 116), (.ixA 3 1 false), [.t 15, .c (.i .i64 2)], none⟩,
    ⟨(some 117), (.ld 1 false), [.t 116], none⟩,
    ⟨(some 118), (.ixA 3 1 false), [.t 15, .c (.i .i64 1)], none⟩,
    ⟨(some 119), (.ld 1 false), [.t 118], none⟩,
    ⟨(some 120), (.ixA 3 1 false), [.t 15, .c (.i .i64 0)], none⟩,
    ⟨(some 121), (.ld 1 false), [.t 120], none⟩,
    ⟨(some 122), (.build [(.i .i64 0), (.i .i64 0), (.i .i64 0)] [(0, 1), (1, 1), (2, 1)]), [.t 117, .t 119, .t 121], none⟩,
    ⟨(some 123), (.eqA false [true, true, true]), [.t 115, .t 122], none⟩] [0, 5, 7, 8, 11, 12, 13, 15, 16, 123])
  (.cond (.t 123)
   (.reg [⟨(some 124), .mv, [.t 11], none⟩,
     ⟨(some 125), .mv, [.t 16], none⟩,
     ⟨(some 126), (.ixS 2 true), [.t 124, .t 125], none⟩,
     ⟨(some 127), (.ixA 2 1 false), [.t 126, .c (.i .i64 1)], none⟩,
     ⟨(some 128), (.ld 1 false), [.t 127], none⟩,
     ⟨(some 129), (.binI .add), [.t 128, .c (.i .i64 1)], none⟩,
     ⟨(some 130), (.ixS 2 true), [.t 124, .t 125], none⟩,
     ⟨(some 131), (.ixA 2 1 false), [.t 130, .c (.i .i64 1)], none⟩,
     ⟨none, (.st 1), [.t 131, .t 129], none⟩] [0, 5, 7, 8, 11, 12, 13, 15, 16])
   .skip))))
 (.reg [⟨(some 96), .mv, [.t 16], none⟩,
   ⟨(some 97), (.binI .add), [.t 96, .c (.i .i64 1)], none⟩,
   ⟨(some 16), .mv, [.t 97], none⟩] [0, 5, 7, 8, 11, 12, 13, 15, 16])))

def l9_1 : DC :=
 (.loop [0, 5, 7, 8, 11, 12, 13, 15, 16] b9_0)

def b9_2 : DC :=
 (.seq (.seq (.reg [⟨(some 69), .mv, [.t 13], none⟩,
   ⟨(some 70), (.binI .lss), [.t 69, .c (.i .i64 16)], none⟩] [0, 5, 7, 8, 11, 12, 13, 70])
 (.cond (.t 70)
  .skip
  (.exit 0)))
 (.seq (.block 1
  (.seq (.reg [⟨(some 73), .mv, [.t 7], none⟩,
    ⟨(some 74), .mv, [.t 12], none⟩,
    ⟨(some 75), (.call (.pu [])), [.c (.fn 38 [] []), .t 73, .t 74], none⟩,
    ⟨(some 14), .mv, [.t 75], none⟩] [0, 5, 7, 8, 11, 12, 13, 14])
  (.seq (.seq (.reg [⟨(some 76), .mv, [.t 14], none⟩,
    ⟨(some 77), (.len 0), [.t 76], none⟩,
    ⟨(some 78), (.binI .eql), [.t 77, .c (.i .i64 0)], none⟩] [0, 5, 7, 8, 11, 12, 13, 14, 78])
  (.cond (.t 78)
   (.exit 0)
   .skip))
  (.seq (.reg [⟨(some 79), .mv, [.t 14], none⟩,
    ⟨(some 80), (.fadr 2 1 false), [.t 5], none⟩,
    ⟨(some 81), (.ld 1 false), [.t 80], none⟩,
    ⟨(some 82), .mv, [.t 13], none⟩,
    ⟨(some 83), (.binI .add), [.t 81, .t 82], none⟩,
    ⟨(some 84), (.conv .u64), [.t 83], none⟩,
    ⟨(some 85), .mv, [.t 14], none⟩,
    ⟨(some 86), (.len 0), [.t 85], none⟩,
    ⟨(some 87), (.conv .u64), [.t 86], none⟩,
    ⟨(some 88), (.binI .rem), [.t 84, .t 87], none⟩,
    ⟨(some 89), (.conv .i64), [.t 88], none⟩,
    ⟨(some 90), (.ixS 3 true), [.t 79, .t 89], none⟩,
    ⟨(some 91), (.ld 3 true), [.t 90], none⟩,
    ⟨(some 15), (.alloc [(.i .i64 0), (.i .i64 0), (.i .i64 0)] true), [], none⟩,
    ⟨none, (.st 3), [.t 15, .t 91], none⟩] [0, 5, 7, 8, 11, 12, 13, 15])
  (.seq (.seq (.reg [⟨(some 16), .mv, [.c (.i .i64 0)], none⟩] [0, 5, 7, 8, 11, 12, 13, 15, 16])
  (.block 2
   l9_1))
  (.reg [⟨(some 133), .mv, [.t 12], none⟩,
    ⟨(some 134), (.ld 3 true), [.t 15], none⟩,
    ⟨(some 135), (.call (.pu [])), [.c (.fn 39 [] []), .t 133, .t 134], none⟩,
    ⟨(some 132), .mv, [.t 135], none⟩,
    ⟨(some 136), (.ext 0), [.t 132], none⟩,
    ⟨(some 137), (.ext 1), [.t 132], none⟩,
    ⟨(some 12), .mv, [.t 136], none⟩] [0, 5, 7, 8, 11, 12, 13]))))))
 (.reg [⟨(some 71), .mv, [.t 13], none⟩,
   ⟨(some 72), (.binI .add), [.t 71, .c (.i .i64 1)], none⟩,
   ⟨(some 13), .mv, [.t 72], none⟩] [0, 5, 7, 8, 11, 12, 13])))

def l9_3 : DC :=
 (.loop [0, 5, 7, 8, 11, 12, 13] b9_2)

def b9_4 : DC :=
 (.seq (.seq (.reg [⟨(some 159), .mv, [.t 18], none⟩,
   ⟨(some 160), .mv, [.t 7], none⟩,
   ⟨(some 161), (.len 0), [.t 160], none⟩,
   ⟨(some 162), (.binI .lss), [.t 159, .t 161], none⟩] [0, 7, 8, 11, 12, 17, 18, 162])
 (.cond (.t 162)
  .skip
  (.exit 4)))
 (.seq (.block 5
  (.reg [⟨(some 165), .mv, [.t 11], none⟩,
    ⟨(some 166), .mv, [.t 18], none⟩,
    ⟨(some 167), .mv, [.t 17], none⟩,
    ⟨(some 168), .mv, [.t 11], none⟩,
    ⟨(some 169), .mv, [.t 18], none⟩,
    ⟨(some 170), (.ixS 2 true), [.t 168, .t 169], none⟩,
    ⟨(some 171), (.ixA 2 1 false), [.t 170, .c (.i .i64 0)], none⟩,
    ⟨(some 172), (.ld 1 false), [.t 171], none⟩,
    ⟨(some 173), (.binI .mul), [.t 167, .t 172], none⟩,
    ⟨(some 174), .mv, [.t 17], none⟩,
    ⟨(some 175), .mv, [.t 11], none⟩,
    ⟨(some 176), .mv, [.t 18], none⟩,
    ⟨(some 177), (.ixS 2 true), [.t 175, .t 176], none⟩,
    ⟨(some 178), (.ixA 2 1 false), [.t 177, .c (.i .i64 1)], none⟩,
    ⟨(some 179), (.ld 1 false), [.t 178], none⟩,
    ⟨(some 180), (.binI .mul), [.t 174, .t 179], none⟩,
    ⟨(some 181), (.build [(.i .i64 0), (.i .i64 0)] [(0, 1), (1, 1)]), [.t 173, .t 180], none⟩,
    ⟨(some 182), (.ixS 2 true), [.t 165, .t 166], none⟩,
    ⟨none, (.st 2), [.t 182, .t 181], none⟩] [0, 7, 8, 11, 12, 17, 18]))
 (.reg [⟨(some 163), .mv, [.t 18], none⟩,
   ⟨(some 164), (.binI .add), [.t 163, .c (.i .i64 1)], none⟩,
   ⟨(some 18), .mv, [.t 164], none⟩] [0, 7, 8, 11, 12, 17, 18])))

def l9_5 : DC :=
 (.loop [0, 7, 8, 11, 12, 17, 18] b9_4)

def c9 : DC :=
 (.seq (.reg [⟨(some 5), (.box true), [.t 2], none⟩,
   ⟨(some 6), .mv, [.c (.b false)], none⟩] [0, 1, 5])
 (.seq (.reg [⟨(some 20), .mv, [.t 0], none⟩,
   ⟨(some 21), .mv, [.t 1], none⟩,
   ⟨(some 22), (.call (.pu [])), [.c (.fn 18 [] []), .t 20, .t 21, .c (.i .i64 16), .c (.i .i64 20)], none⟩,
   ⟨(some 19), .mv, [.t 22], none⟩,
   ⟨(some 23), (.ext 0), [.t 19], none⟩,
   ⟨(some 24), (.ext 1), [.t 19], none⟩,
   ⟨(some 0), .mv, [.t 23], none⟩,
   ⟨(some 7), .mv, [.t 24], none⟩] [0, 5, 7])
 (.seq (.reg [⟨(some 25), (.fadr 0 1 false), [.t 5], none⟩,
   ⟨(some 26), (.ld 1 false), [.t 25], none⟩,
   ⟨(some 27), (.conv .u64), [.t 26], none⟩,
   ⟨(some 28), .mv, [.t 0], none⟩,
   ⟨(some 29), (.binI .shl), [.c (.i .u64 1), .t 28], none⟩,
   ⟨(some 30), (.binI .rem), [.t 27, .t 29], none⟩,
   ⟨(some 31), (.conv .i64), [.t 30], none⟩,
   ⟨(some 32), (.fadr 1 1 false), [.t 5], none⟩,
   ⟨(some 33), (.ld 1 false), [.t 32], none⟩,
   ⟨(some 34), (.conv .u64), [.t 33], none⟩,
   ⟨(some 35), .mv, [.t 0], none⟩,
   ⟨(some 36), (.binI .shl), [.c (.i .u64 1), .t 35], none⟩,
   ⟨(some 37), (.binI .rem), [.t 34, .t 36], none⟩,
   ⟨(some 38), (.conv .i64), [.t 37], none⟩,
   ⟨(some 8), .mv, [.t 31], none⟩,
   ⟨(some 9), .mv, [.t 38], none⟩] [0, 5, 7, 8, 9])
 (.seq (.reg [⟨(some 10), .mv, [.c .nilsl], none⟩] [0, 5, 7, 8, 9, 10])
 (.seq (.reg [⟨(some 39), .mv, [.t 10], none⟩,
   ⟨(some 40), (.fadr 3 1 false), [.t 5], none⟩,
   ⟨(some 41), (.ld 1 false), [.t 40], none⟩,
   ⟨(some 42), (.fadr 3 1 false), [.t 5], none⟩,
   ⟨(some 43), (.ld 1 false), [.t 42], none⟩,
   ⟨(some 44), (.len 0), [.t 43], none⟩,
   ⟨(some 45), .mnI, [.t 44, .c (.i .i64 41)], none⟩,
   ⟨(some 46), (.slc false true false 2 true), [.t 41, .t 45], none⟩,
   ⟨(some 47), (.app 2 true 16), [.t 39, .t 46], none⟩,
   ⟨(some 10), .mv, [.t 47], none⟩] [0, 5, 7, 8, 9, 10])
 (.seq (.seq (.reg [⟨(some 48), .mv, [.t 0], none⟩,
   ⟨(some 49), .mv, [.t 7], none⟩,
   ⟨(some 50), .mv, [.t 8], none⟩,
   ⟨(some 51), .mv, [.t 9], none⟩,
   ⟨(some 52), (.fadr 2 1 false), [.t 5], none⟩,
   ⟨(some 53), (.ld 1 false), [.t 52], none⟩,
   ⟨(some 54), .mv, [.t 10], none⟩,
   ⟨(some 55), (.call (.pu [])), [.c (.fn 36 [] []), .t 48, .t 49, .t 50, .t 51, .t 53, .t 54], none⟩,
   ⟨(some 56), .mv, [.t 0], none⟩,
   ⟨(some 57), .mv, [.t 7], none⟩,
   ⟨(some 58), .mv, [.t 8], none⟩,
   ⟨(some 59), .mv, [.t 9], none⟩,
   ⟨(some 60), (.fadr 2 1 false), [.t 5], none⟩,
   ⟨(some 61), (.ld 1 false), [.t 60], none⟩,
   ⟨(some 62), .mv, [.t 10], none⟩,
   ⟨(some 63), (.call (.pu [])), [.c (.fn 37 [] []), .t 56, .t 57, .t 58, .t 59, .t 61, .t 62], none⟩,
   ⟨(some 64), (.eqB true), [.t 55, .t 63], none⟩] [0, 5, 7, 8, 64])
 (.cond (.t 64)
  (.seq (.reg [⟨(some 6), .mv, [.c (.b false)], none⟩] [6])
  .ret)
  .skip))
 (.seq (.reg [⟨(some 65), .mv, [.t 7], none⟩,
   ⟨(some 66), (.len 0), [.t 65], none⟩,
   ⟨(some 67), (.mksl [(.i .i64 0), (.i .i64 0)] true 16), [.t 66, .t 66], none⟩,
   ⟨(some 11), .mv, [.t 67], none⟩] [0, 5, 7, 8, 11])
 (.seq (.reg [⟨(some 68), .mv, [.t 8], none⟩,
   ⟨(some 12), .mv, [.t 68], none⟩] [0, 5, 7, 8, 11, 12])
 (.seq (.seq (.reg [⟨(some 13), .mv, [.c (.i .i64 0)], none⟩] [0, 5, 7, 8, 11, 12, 13])
 (.block 0
  l9_3))
 (.seq (.seq (.reg [⟨(some 138), .mv, [.t 0], none⟩,
   ⟨(some 139), .mv, [.t 7], none⟩,
   ⟨(some 140), .mv, [.t 8], none⟩,
   ⟨(some 141), .mv, [.t 12], none⟩,
   ⟨(some 142), .mv, [.t 11], none⟩,
   ⟨(some 143), (.call (.pu [])), [.c (.fn 36 [] []), .t 138, .t 139, .t 140, .t 141, .c (.i .i64 1), .t 142], none⟩,
   ⟨(some 144), .notB, [.t 143], none⟩,
   ⟨(some 145), .mv, [.t 144], none⟩,
   ⟨(some 146), .mv, [.t 0], (some (145, false))⟩,
   ⟨(some 147), .mv, [.t 7], (some (145, false))⟩,
   ⟨(some 148), .mv, [.t 8], (some (145, false))⟩,
   ⟨(some 149), .mv, [.t 12], (some (145, false))⟩,
   ⟨(some 150), .mv, [.t 11], (some (145, false))⟩,
   ⟨(some 151), (.call (.pu [])), [.c (.fn 36 [] []), .t 146, .t 147, .t 148, .t 149, .c (.i .i64 0), .t 150], (some (145, false))⟩,
   ⟨(some 152), .pick, [.t 145, .c (.b true), .t 151], none⟩] [0, 5, 7, 8, 11, 12, 152])
 (.cond (.t 152)
  (.seq (.reg [⟨(some 6), .mv, [.c (.b false)], none⟩] [6])
  .ret)
  .skip))
 (.seq (.reg [⟨(some 153), (.fadr 2 1 false), [.t 5], none⟩,
   ⟨(some 154), (.ld 1 false), [.t 153], none⟩,
   ⟨(some 155), (.conv .u64), [.t 154], none⟩,
   ⟨(some 156), (.binI .rem), [.t 155, .c (.i .u64 100)], none⟩,
   ⟨(some 157), (.conv .i64), [.t 156], none⟩,
   ⟨(some 158), (.binI .add), [.c (.i .i64 1), .t 157], none⟩,
   ⟨(some 17), .mv, [.t 158], none⟩] [0, 7, 8, 11, 12, 17])
 (.seq (.seq (.reg [⟨(some 18), .mv, [.c (.i .i64 0)], none⟩] [0, 7, 8, 11, 12, 17, 18])
 (.block 4
  l9_5))
 (.seq (.reg [⟨(some 183), .mv, [.t 0], none⟩,
   ⟨(some 184), .mv, [.t 7], none⟩,
   ⟨(some 185), .mv, [.t 8], none⟩,
   ⟨(some 186), .mv, [.t 12], none⟩,
   ⟨(some 187), .mv, [.t 17], none⟩,
   ⟨(some 188), .mv, [.t 11], none⟩,
   ⟨(some 189), (.call (.pu [])), [.c (.fn 36 [] []), .t 183, .t 184, .t 185, .t 186, .t 187, .t 188], none⟩,
   ⟨(some 190), .mv, [.t 189], none⟩,
   ⟨(some 191), .mv, [.t 12], (some (190, true))⟩,
   ⟨(some 192), .mv, [.t 8], (some (190, true))⟩,
   ⟨(some 193), (.binI .eql), [.t 191, .t 192], (some (190, true))⟩,
   ⟨(some 194), .mv, [.t 193], (some (190, true))⟩,
   ⟨(some 195), .mv, [.t 0], (some (194, false))⟩,
   ⟨(some 196), .mv, [.t 7], (some (194, false))⟩,
   ⟨(some 197), .mv, [.t 8], (some (194, false))⟩,
   ⟨(some 198), .mv, [.t 12], (some (194, false))⟩,
   ⟨(some 199), .mv, [.t 17], (some (194, false))⟩,
   ⟨(some 200), (.binI .add), [.t 199, .c (.i .i64 1)], (some (194, false))⟩,
   ⟨(some 201), .mv, [.t 11], (some (194, false))⟩,
   ⟨(some 202), (.call (.pu [])), [.c (.fn 36 [] []), .t 195, .t 196, .t 197, .t 198, .t 200, .t 201], (some (194, false))⟩,
   ⟨(some 203), .notB, [.t 202], (some (194, false))⟩,
   ⟨(some 204), .pick, [.t 194, .c (.b true), .t 203], (some (190, true))⟩,
   ⟨(some 205), .pick, [.t 190, .t 204, .c (.b false)], none⟩,
   ⟨(some 206), .mv, [.t 205], none⟩,
   ⟨(some 207), (.call (.pu [])), [.c (.fn 22 [] [])], (some (206, true))⟩,
   ⟨(some 208), .pick, [.t 206, .t 207, .c (.b false)], none⟩,
   ⟨(some 6), .mv, [.t 208], none⟩] [6])
 .ret)))))))))))))

def d9 : DFun := ⟨3, 209, c9, [.t 6]⟩

theorem ok9 : Fok Try.prog 9 d9 := ⟨Try.f9, Try.func9, by kernel_rfl, by kernel_rfl⟩

-- bibelot/bibelotlaw02.PegPlays
def b10_0 : DC :=
 (.seq (.seq (.reg [⟨(some 84), .mv, [.t 17], none⟩,
   ⟨(some 85), .mv, [.t 9], none⟩,
   ⟨(some 86), (.len 0), [.t 85], none⟩,
   ⟨(some 87), (.binI .lss), [.t 84, .t 86], none⟩] [0, 7, 8, 9, 10, 15, 16, 17, 87])
 (.cond (.t 87)
  .skip
  (.exit 2)))
 (.seq (.block 3
  (.seq (.reg [⟨(some 90), .mv, [.t 7], none⟩,
    ⟨(some 91), .mv, [.t 15], none⟩,
    ⟨(some 92), (.call (.pu [])), [.c (.fn 38 [] []), .t 90, .t 91], none⟩,
    ⟨(some 18), .mv, [.t 92], none⟩] [0, 7, 8, 9, 10, 15, 16, 17, 18])
  (.seq (.seq (.reg [⟨(some 93), .mv, [.t 18], none⟩,
    ⟨(some 94), (.len 0), [.t 93], none⟩,
    ⟨(some 95), (.binI .eql), [.t 94, .c (.i .i64 0)], none⟩] [0, 7, 8, 9, 10, 15, 16, 17, 18, 95])
  (.cond (.t 95)
   (.exit 2)
   .skip))
  (.seq (.reg [⟨(some 96), .mv, [.t 18], none⟩,
    ⟨(some 97), .mv, [.t 9], none⟩,
    ⟨(some 98), .mv, [.t 17], none⟩,
    ⟨(some 99), (.ixS 3 true), [.t 97, .t 98], none⟩,
    ⟨(some 100), (.ixA 3 1 false), [.t 99, .c (.i .i64 0)], none⟩,
    ⟨(some 101), (.ld 1 false), [.t 100], none⟩,
    ⟨(some 102), .mv, [.t 9], none⟩,
    ⟨(some 103), .mv, [.t 17], none⟩,
    ⟨(some 104), (.ixS 3 true), [.t 102, .t 103], none⟩,
    ⟨(some 105), (.ixA 3 1 false), [.t 104, .c (.i .i64 1)], none⟩,
    ⟨(some 106), (.ld 1 false), [.t 105], none⟩,
    ⟨(some 107), (.binI .add), [.t 101, .t 106], none⟩,
    ⟨(some 108), (.conv .u64), [.t 107], none⟩,
    ⟨(some 109), .mv, [.t 18], none⟩,
    ⟨(some 110), (.len 0), [.t 109], none⟩,
    ⟨(some 111), (.conv .u64), [.t 110], none⟩,
    ⟨(some 112), (.binI .rem), [.t 108, .t 111], none⟩,
    ⟨(some 113), (.conv .i64), [.t 112], none⟩,
    ⟨(some 114), (.ixS 3 true), [.t 96, .t 113], none⟩,
    ⟨(some 115), (.ld 3 true), [.t 114], none⟩,
    ⟨(some 19), (.alloc [(.i .i64 0), (.i .i64 0), (.i .i64 0)] true), [], none⟩,
    ⟨none, (.st 3), [.t 19, .t 115], none⟩] [0, 7, 8, 9, 10, 15, 16, 17, 19])
  (.seq (.reg [⟨(some 116), .mv, [.t 16], none⟩,
    ⟨(some 117), (.ld 3 true), [.t 19], none⟩,
    ⟨(some 118), (.bsl false [(.i .i64 0), (.i .i64 0), (.i .i64 0)] true 1 [0]), [.t 117], none⟩,
    ⟨(some 119), (.app 3 true 24), [.t 116, .t 118], none⟩,
    ⟨(some 16), .mv, [.t 119], none⟩] [0, 7, 8, 9, 10, 15, 16, 17, 19])
  (.reg [⟨(some 121), .mv, [.t 15], none⟩,
    ⟨(some 122), (.ld 3 true), [.t 19], none⟩,
    ⟨(some 123), (.call (.pu [])), [.c (.fn 39 [] []), .t 121, .t 122], none⟩,
    ⟨(some 120), .mv, [.t 123], none⟩,
    ⟨(some 124), (.ext 0), [.t 120], none⟩,
    ⟨(some 125), (.ext 1), [.t 120], none⟩,
    ⟨(some 15), .mv, [.t 124], none⟩] [0, 7, 8, 9, 10, 15, 16, 17]))))))
 (.reg [⟨(some 88), .mv, [.t 17], none⟩,
   ⟨(some 89), (.binI .add), [.t 88, .c (.i .i64 1)], none⟩,
   ⟨(some 17), .mv, [.t 89], none⟩] [0, 7, 8, 9, 10, 15, 16, 17])))

def l10_1 : DC :=
 (.loop [0, 7, 8, 9, 10, 15, 16, 17] b10_0)

def b10_2 : DC :=
 (.seq (.seq (.reg [⟨(some 42), .mv, [.t 10], none⟩,
   ⟨(some 43), (.binI .lss), [.t 42, .c (.i .i64 2)], none⟩] [0, 7, 8, 9, 10, 43])
 (.cond (.t 43)
  .skip
  (.exit 0)))
 (.seq (.block 1
  (.seq (.reg [⟨(some 47), .mv, [.t 0], none⟩,
    ⟨(some 48), .mv, [.t 7], none⟩,
    ⟨(some 49), .mv, [.t 8], none⟩,
    ⟨(some 50), .mv, [.t 9], none⟩,
    ⟨(some 51), (.call (.pu [])), [.c (.fn 40 [] []), .t 47, .t 48, .t 49, .t 50], none⟩,
    ⟨(some 46), .mv, [.t 51], none⟩,
    ⟨(some 52), (.ext 0), [.t 46], none⟩,
    ⟨(some 53), (.ext 1), [.t 46], none⟩,
    ⟨(some 11), .mv, [.t 52], none⟩,
    ⟨(some 12), .mv, [.t 53], none⟩] [0, 7, 8, 9, 10, 11, 12])
  (.seq (.reg [⟨(some 55), .mv, [.t 7], none⟩,
    ⟨(some 56), .mv, [.t 8], none⟩,
    ⟨(some 57), .mv, [.t 9], none⟩,
    ⟨(some 58), (.call (.pu [])), [.c (.fn 21 [] []), .t 55, .t 56, .t 57], none⟩,
    ⟨(some 54), .mv, [.t 58], none⟩,
    ⟨(some 59), (.ext 0), [.t 54], none⟩,
    ⟨(some 60), (.ext 1), [.t 54], none⟩,
    ⟨(some 13), .mv, [.t 59], none⟩,
    ⟨(some 14), .mv, [.t 60], none⟩] [0, 7, 8, 9, 10, 11, 12, 13, 14])
  (.seq (.seq (.reg [⟨(some 61), .mv, [.t 14], none⟩,
    ⟨(some 62), .notB, [.t 61], none⟩,
    ⟨(some 63), .mv, [.t 62], none⟩,
    ⟨(some 64), .mv, [.t 12], (some (63, true))⟩,
    ⟨(some 65), (.binI .neq), [.t 64, .c (.i .i64 21)], (some (63, true))⟩,
    ⟨(some 66), .mv, [.t 65], (some (63, true))⟩,
    ⟨(some 67), .mv, [.t 11], (some (66, false))⟩,
    ⟨(some 68), (.binI .neq), [.t 67, .c (.i .i64 0)], (some (66, false))⟩,
    ⟨(some 69), .pick, [.t 66, .c (.b true), .t 68], (some (63, true))⟩,
    ⟨(some 70), .pick, [.t 63, .t 69, .c (.b false)], none⟩,
    ⟨(some 71), .mv, [.t 70], none⟩,
    ⟨(some 72), .mv, [.t 14], (some (71, false))⟩,
    ⟨(some 73), .mv, [.t 72], (some (71, false))⟩,
    ⟨(some 74), .mv, [.t 12], (some (73, true))⟩,
    ⟨(some 75), (.binI .neq), [.t 74, .c (.i .i64 0)], (some (73, true))⟩,
    ⟨(some 76), .mv, [.t 75], (some (73, true))⟩,
    ⟨(some 77), .mv, [.t 11], (some (76, false))⟩,
    ⟨(some 78), .mv, [.t 13], (some (76, false))⟩,
    ⟨(some 79), (.binI .neq), [.t 77, .t 78], (some (76, false))⟩,
    ⟨(some 80), .pick, [.t 76, .c (.b true), .t 79], (some (73, true))⟩,
    ⟨(some 81), .pick, [.t 73, .t 80, .c (.b false)], (some (71, false))⟩,
    ⟨(some 82), .pick, [.t 71, .c (.b true), .t 81], none⟩] [0, 7, 8, 9, 10, 82])
  (.cond (.t 82)
   (.seq (.reg [⟨(some 6), .mv, [.c (.b false)], none⟩] [6])
   .ret)
   .skip))
  (.seq (.reg [⟨(some 83), .mv, [.t 8], none⟩,
    ⟨(some 15), .mv, [.t 83], none⟩] [0, 7, 8, 9, 10, 15])
  (.seq (.reg [⟨(some 16), .mv, [.c .nilsl], none⟩] [0, 7, 8, 9, 10, 15, 16])
  (.seq (.seq (.reg [⟨(some 17), .mv, [.c (.i .i64 0)], none⟩] [0, 7, 8, 9, 10, 15, 16, 17])
  (.block 2
   l10_1))
  (.reg [⟨(some 126), .mv, [.t 16], none⟩,
    ⟨(some 9), .mv, [.t 126], none⟩] [0, 7, 8, 9, 10]))))))))
 (.reg [⟨(some 44), .mv, [.t 10], none⟩,
   ⟨(some 45), (.binI .add), [.t 44, .c (.i .i64 1)], none⟩,
   ⟨(some 10), .mv, [.t 45], none⟩] [0, 7, 8, 9, 10])))

def l10_3 : DC :=
 (.loop [0, 7, 8, 9, 10] b10_2)

def c10 : DC :=
 (.seq (.reg [⟨(some 5), (.box true), [.t 2], none⟩,
   ⟨(some 6), .mv, [.c (.b false)], none⟩] [0, 1, 5])
 (.seq (.reg [⟨(some 21), .mv, [.t 0], none⟩,
   ⟨(some 22), .mv, [.t 1], none⟩,
   ⟨(some 23), (.call (.pu [])), [.c (.fn 18 [] []), .t 21, .t 22, .c (.i .i64 16), .c (.i .i64 20)], none⟩,
   ⟨(some 20), .mv, [.t 23], none⟩,
   ⟨(some 24), (.ext 0), [.t 20], none⟩,
   ⟨(some 25), (.ext 1), [.t 20], none⟩,
   ⟨(some 0), .mv, [.t 24], none⟩,
   ⟨(some 7), .mv, [.t 25], none⟩] [0, 5, 7])
 (.seq (.reg [⟨(some 26), (.fadr 0 1 false), [.t 5], none⟩,
   ⟨(some 27), (.ld 1 false), [.t 26], none⟩,
   ⟨(some 28), (.conv .u64), [.t 27], none⟩,
   ⟨(some 29), .mv, [.t 0], none⟩,
   ⟨(some 30), (.binI .shl), [.c (.i .u64 1), .t 29], none⟩,
   ⟨(some 31), (.binI .rem), [.t 28, .t 30], none⟩,
   ⟨(some 32), (.conv .i64), [.t 31], none⟩,
   ⟨(some 8), .mv, [.t 32], none⟩] [0, 5, 7, 8])
 (.seq (.reg [⟨(some 9), .mv, [.c .nilsl], none⟩] [0, 5, 7, 8, 9])
 (.seq (.reg [⟨(some 33), .mv, [.t 9], none⟩,
   ⟨(some 34), (.fadr 1 1 false), [.t 5], none⟩,
   ⟨(some 35), (.ld 1 false), [.t 34], none⟩,
   ⟨(some 36), (.fadr 1 1 false), [.t 5], none⟩,
   ⟨(some 37), (.ld 1 false), [.t 36], none⟩,
   ⟨(some 38), (.len 0), [.t 37], none⟩,
   ⟨(some 39), .mnI, [.t 38, .c (.i .i64 20)], none⟩,
   ⟨(some 40), (.slc false true false 3 true), [.t 35, .t 39], none⟩,
   ⟨(some 41), (.app 3 true 24), [.t 33, .t 40], none⟩,
   ⟨(some 9), .mv, [.t 41], none⟩] [0, 7, 8, 9])
 (.seq (.seq (.reg [⟨(some 10), .mv, [.c (.i .i64 0)], none⟩] [0, 7, 8, 9, 10])
 (.block 0
  l10_3))
 (.seq (.reg [⟨(some 127), (.call (.pu [])), [.c (.fn 22 [] [])], none⟩,
   ⟨(some 6), .mv, [.t 127], none⟩] [6])
 .ret)))))))

def d10 : DFun := ⟨3, 128, c10, [.t 6]⟩

theorem ok10 : Fok Try.prog 10 d10 := ⟨Try.f10, Try.func10, by kernel_rfl, by kernel_rfl⟩

-- bibelot/bibelotlaw02.PegPagodas
def c11 : DC :=
 (.seq (.reg [⟨(some 5), (.box true), [.t 2], none⟩,
   ⟨(some 6), .mv, [.c (.b false)], none⟩] [0, 1, 5])
 (.seq (.reg [⟨(some 18), .mv, [.t 0], none⟩,
   ⟨(some 19), .mv, [.t 1], none⟩,
   ⟨(some 20), (.call (.pu [])), [.c (.fn 18 [] []), .t 18, .t 19, .c (.i .i64 11), .c (.i .i64 14)], none⟩,
   ⟨(some 17), .mv, [.t 20], none⟩,
   ⟨(some 21), (.ext 0), [.t 17], none⟩,
   ⟨(some 22), (.ext 1), [.t 17], none⟩,
   ⟨(some 0), .mv, [.t 21], none⟩,
   ⟨(some 7), .mv, [.t 22], none⟩] [0, 5, 7])
 (.seq (.reg [⟨(some 23), (.ixA 2 1 false), [.t 5, .c (.i .i64 0)], none⟩,
   ⟨(some 24), (.ld 1 false), [.t 23], none⟩,
   ⟨(some 25), (.conv .u64), [.t 24], none⟩,
   ⟨(some 26), .mv, [.t 0], none⟩,
   ⟨(some 27), (.binI .shl), [.c (.i .u64 1), .t 26], none⟩,
   ⟨(some 28), (.binI .rem), [.t 25, .t 27], none⟩,
   ⟨(some 29), (.conv .i64), [.t 28], none⟩,
   ⟨(some 30), (.ixA 2 1 false), [.t 5, .c (.i .i64 1)], none⟩,
   ⟨(some 31), (.ld 1 false), [.t 30], none⟩,
   ⟨(some 32), (.conv .u64), [.t 31], none⟩,
   ⟨(some 33), .mv, [.t 0], none⟩,
   ⟨(some 34), (.binI .shl), [.c (.i .u64 1), .t 33], none⟩,
   ⟨(some 35), (.binI .rem), [.t 32, .t 34], none⟩,
   ⟨(some 36), (.conv .i64), [.t 35], none⟩,
   ⟨(some 8), .mv, [.t 29], none⟩,
   ⟨(some 9), .mv, [.t 36], none⟩] [0, 7, 8, 9])
 (.seq (.reg [⟨(some 38), .mv, [.t 0], none⟩,
   ⟨(some 39), .mv, [.t 7], none⟩,
   ⟨(some 40), .mv, [.t 8], none⟩,
   ⟨(some 41), .mv, [.t 9], none⟩,
   ⟨(some 42), (.call (.pu [])), [.c (.fn 41 [] []), .t 38, .t 39, .t 40, .t 41], none⟩,
   ⟨(some 37), .mv, [.t 42], none⟩,
   ⟨(some 43), (.ext 0), [.t 37], none⟩,
   ⟨(some 44), (.ext 1), [.t 37], none⟩,
   ⟨(some 45), (.ext 2), [.t 37], none⟩,
   ⟨(some 10), .mv, [.t 43], none⟩,
   ⟨(some 11), .mv, [.t 44], none⟩,
   ⟨(some 12), .mv, [.t 45], none⟩] [0, 7, 8, 9, 10, 11, 12])
 (.seq (.reg [⟨(some 47), .mv, [.t 0], none⟩,
   ⟨(some 48), .mv, [.t 7], none⟩,
   ⟨(some 49), .mv, [.t 8], none⟩,
   ⟨(some 50), .mv, [.t 9], none⟩,
   ⟨(some 51), (.call (.pu [])), [.c (.fn 42 [] []), .t 47, .t 48, .t 49, .t 50], none⟩,
   ⟨(some 46), .mv, [.t 51], none⟩,
   ⟨(some 52), (.ext 0), [.t 46], none⟩,
   ⟨(some 53), (.ext 1), [.t 46], none⟩,
   ⟨(some 54), (.ext 2), [.t 46], none⟩,
   ⟨(some 55), (.ext 3), [.t 46], none⟩,
   ⟨(some 13), .mv, [.t 52], none⟩,
   ⟨(some 14), .mv, [.t 53], none⟩,
   ⟨(some 15), .mv, [.t 54], none⟩,
   ⟨(some 16), .mv, [.t 55], none⟩] [0, 7, 8, 9, 10, 11, 12, 13, 14, 15, 16])
 (.seq (.seq (.reg [⟨(some 56), .mv, [.t 0], none⟩,
   ⟨(some 57), (.binI .gtr), [.t 56, .c (.i .i64 9)], none⟩,
   ⟨(some 58), .mv, [.t 57], none⟩,
   ⟨(some 59), .mv, [.t 7], (some (58, false))⟩,
   ⟨(some 60), (.len 0), [.t 59], (some (58, false))⟩,
   ⟨(some 61), (.binI .gtr), [.t 60, .c (.i .i64 12)], (some (58, false))⟩,
   ⟨(some 62), .pick, [.t 58, .c (.b true), .t 61], none⟩] [0, 7, 8, 9, 10, 11, 12, 13, 14, 15, 16, 62])
 (.cond (.t 62)
  (.seq (.reg [⟨(some 63), .mv, [.t 12], none⟩,
    ⟨(some 64), (.binI .eql), [.t 63, .c (.i .i64 2)], none⟩,
    ⟨(some 65), .mv, [.t 64], none⟩,
    ⟨(some 66), .mv, [.t 16], (some (65, true))⟩,
    ⟨(some 67), (.binI .eql), [.t 66, .c (.i .i64 2)], (some (65, true))⟩,
    ⟨(some 68), .pick, [.t 65, .t 67, .c (.b false)], none⟩,
    ⟨(some 69), .mv, [.t 68], none⟩,
    ⟨(some 70), .mv, [.t 11], (some (69, true))⟩,
    ⟨(some 71), .notB, [.t 70], (some (69, true))⟩,
    ⟨(some 72), .pick, [.t 69, .t 71, .c (.b false)], none⟩,
    ⟨(some 73), .mv, [.t 72], none⟩,
    ⟨(some 74), .mv, [.t 15], (some (73, true))⟩,
    ⟨(some 75), .notB, [.t 74], (some (73, true))⟩,
    ⟨(some 76), .pick, [.t 73, .t 75, .c (.b false)], none⟩,
    ⟨(some 77), .mv, [.t 76], none⟩,
    ⟨(some 78), .mv, [.t 10], (some (77, true))⟩,
    ⟨(some 79), (.len 0), [.t 78], (some (77, true))⟩,
    ⟨(some 80), .mv, [.t 14], (some (77, true))⟩,
    ⟨(some 81), (.len 0), [.t 80], (some (77, true))⟩,
    ⟨(some 82), (.binI .add), [.t 79, .t 81], (some (77, true))⟩,
    ⟨(some 83), (.binI .eql), [.t 82, .c (.i .i64 0)], (some (77, true))⟩,
    ⟨(some 84), .pick, [.t 77, .t 83, .c (.b false)], none⟩,
    ⟨(some 85), .mv, [.t 84], none⟩,
    ⟨(some 86), .mv, [.t 13], (some (85, true))⟩,
    ⟨(some 87), (.binI .eql), [.t 86, .c (.i .i64 0)], (some (85, true))⟩,
    ⟨(some 88), .pick, [.t 85, .t 87, .c (.b false)], none⟩,
    ⟨(some 89), .mv, [.t 88], none⟩,
    ⟨(some 90), (.call (.pu [])), [.c (.fn 22 [] [])], (some (89, true))⟩,
    ⟨(some 91), .pick, [.t 89, .t 90, .c (.b false)], none⟩,
    ⟨(some 6), .mv, [.t 91], none⟩] [6])
  .ret)
  .skip))
 (.seq (.seq (.reg [⟨(some 92), .mv, [.t 12], none⟩,
   ⟨(some 93), (.binI .neq), [.t 92, .c (.i .i64 0)], none⟩,
   ⟨(some 94), .mv, [.t 93], none⟩,
   ⟨(some 95), .mv, [.t 16], (some (94, false))⟩,
   ⟨(some 96), (.binI .neq), [.t 95, .c (.i .i64 0)], (some (94, false))⟩,
   ⟨(some 97), .pick, [.t 94, .c (.b true), .t 96], none⟩,
   ⟨(some 98), .mv, [.t 97], none⟩,
   ⟨(some 99), .mv, [.t 11], (some (98, false))⟩,
   ⟨(some 100), .mv, [.t 15], (some (98, false))⟩,
   ⟨(some 101), (.eqB false), [.t 99, .t 100], (some (98, false))⟩,
   ⟨(some 102), .pick, [.t 98, .c (.b true), .t 101], none⟩] [0, 7, 8, 9, 10, 11, 13, 14, 102])
 (.cond (.t 102)
  (.seq (.reg [⟨(some 6), .mv, [.c (.b false)], none⟩] [6])
  .ret)
  .skip))
 (.seq (.seq (.reg [⟨(some 103), .mv, [.t 11], none⟩] [0, 7, 8, 9, 10, 13, 14, 103])
 (.cond (.t 103)
  (.seq (.reg [⟨(some 104), .mv, [.t 0], none⟩,
    ⟨(some 105), .mv, [.t 10], none⟩,
    ⟨(some 106), (.call (.pu [])), [.c (.fn 33 [] []), .t 104, .t 105], none⟩,
    ⟨(some 107), .mv, [.t 106], none⟩,
    ⟨(some 108), .mv, [.t 7], (some (107, true))⟩,
    ⟨(some 109), .mv, [.t 8], (some (107, true))⟩,
    ⟨(some 110), .mv, [.t 9], (some (107, true))⟩,
    ⟨(some 111), .mv, [.t 10], (some (107, true))⟩,
    ⟨(some 112), (.call (.pu [])), [.c (.fn 35 [] []), .t 108, .t 109, .t 110, .t 111], (some (107, true))⟩,
    ⟨(some 113), .pick, [.t 107, .t 112, .c (.b false)], none⟩,
    ⟨(some 114), .mv, [.t 113], none⟩,
    ⟨(some 115), .mv, [.t 14], (some (114, true))⟩,
    ⟨(some 116), (.len 0), [.t 115], (some (114, true))⟩,
    ⟨(some 117), (.binI .eql), [.t 116, .c (.i .i64 0)], (some (114, true))⟩,
    ⟨(some 118), .pick, [.t 114, .t 117, .c (.b false)], none⟩,
    ⟨(some 119), .mv, [.t 118], none⟩,
    ⟨(some 120), .mv, [.t 13], (some (119, true))⟩,
    ⟨(some 121), (.binI .eql), [.t 120, .c (.i .i64 0)], (some (119, true))⟩,
    ⟨(some 122), .pick, [.t 119, .t 121, .c (.b false)], none⟩,
    ⟨(some 123), .mv, [.t 122], none⟩,
    ⟨(some 124), (.call (.pu [])), [.c (.fn 22 [] [])], (some (123, true))⟩,
    ⟨(some 125), .pick, [.t 123, .t 124, .c (.b false)], none⟩,
    ⟨(some 6), .mv, [.t 125], none⟩] [6])
  .ret)
  .skip))
 (.seq (.reg [⟨(some 126), .mv, [.t 0], none⟩,
   ⟨(some 127), .mv, [.t 7], none⟩,
   ⟨(some 128), .mv, [.t 8], none⟩,
   ⟨(some 129), .mv, [.t 9], none⟩,
   ⟨(some 130), .mv, [.t 13], none⟩,
   ⟨(some 131), .mv, [.t 14], none⟩,
   ⟨(some 132), (.call (.pu [])), [.c (.fn 37 [] []), .t 126, .t 127, .t 128, .t 129, .t 130, .t 131], none⟩,
   ⟨(some 133), .mv, [.t 132], none⟩,
   ⟨(some 134), .mv, [.t 0], (some (133, true))⟩,
   ⟨(some 135), .mv, [.t 7], (some (133, true))⟩,
   ⟨(some 136), .mv, [.t 8], (some (133, true))⟩,
   ⟨(some 137), .mv, [.t 9], (some (133, true))⟩,
   ⟨(some 138), .mv, [.t 13], (some (133, true))⟩,
   ⟨(some 139), .mv, [.t 14], (some (133, true))⟩,
   ⟨(some 140), (.call (.pu [])), [.c (.fn 36 [] []), .t 134, .t 135, .t 136, .t 137, .t 138, .t 139], (some (133, true))⟩,
   ⟨(some 141), .pick, [.t 133, .t 140, .c (.b false)], none⟩,
   ⟨(some 142), .mv, [.t 141], none⟩,
   ⟨(some 143), .mv, [.t 10], (some (142, true))⟩,
   ⟨(some 144), (.len 0), [.t 143], (some (142, true))⟩,
   ⟨(some 145), (.binI .eql), [.t 144, .c (.i .i64 0)], (some (142, true))⟩,
   ⟨(some 146), .pick, [.t 142, .t 145, .c (.b false)], none⟩,
   ⟨(some 147), .mv, [.t 146], none⟩,
   ⟨(some 148), (.call (.pu [])), [.c (.fn 22 [] [])], (some (147, true))⟩,
   ⟨(some 149), .pick, [.t 147, .t 148, .c (.b false)], none⟩,
   ⟨(some 6), .mv, [.t 149], none⟩] [6])
 .ret)))))))))

def d11 : DFun := ⟨3, 150, c11, [.t 6]⟩

theorem ok11 : Fok Try.prog 11 d11 := ⟨Try.f11, Try.func11, by kernel_rfl, by kernel_rfl⟩

-- bibelot/bibelotlaw02.PegCounts
def c12 : DC :=
 (.seq (.reg [⟨(some 5), (.box true), [.t 2], none⟩,
   ⟨(some 6), .mv, [.c (.b false)], none⟩] [0, 1, 5])
 (.seq (.reg [⟨(some 27), .mv, [.t 0], none⟩,
   ⟨(some 28), .mv, [.t 1], none⟩,
   ⟨(some 29), (.call (.pu [])), [.c (.fn 18 [] []), .t 27, .t 28, .c (.i .i64 9), .c (.i .i64 12)], none⟩,
   ⟨(some 26), .mv, [.t 29], none⟩,
   ⟨(some 30), (.ext 0), [.t 26], none⟩,
   ⟨(some 31), (.ext 1), [.t 26], none⟩,
   ⟨(some 0), .mv, [.t 30], none⟩,
   ⟨(some 7), .mv, [.t 31], none⟩] [0, 5, 7])
 (.seq (.reg [⟨(some 32), (.ixA 2 1 false), [.t 5, .c (.i .i64 0)], none⟩,
   ⟨(some 33), (.ld 1 false), [.t 32], none⟩,
   ⟨(some 34), (.conv .u64), [.t 33], none⟩,
   ⟨(some 35), .mv, [.t 0], none⟩,
   ⟨(some 36), (.binI .shl), [.c (.i .u64 1), .t 35], none⟩,
   ⟨(some 37), (.binI .rem), [.t 34, .t 36], none⟩,
   ⟨(some 38), (.conv .i64), [.t 37], none⟩,
   ⟨(some 8), .mv, [.t 38], none⟩] [0, 5, 7, 8])
 (.seq (.reg [⟨(some 40), .mv, [.t 0], none⟩,
   ⟨(some 41), .mv, [.t 7], none⟩,
   ⟨(some 42), .mv, [.t 8], none⟩,
   ⟨(some 43), (.call (.pu [])), [.c (.fn 24 [] []), .t 40, .t 41, .t 42], none⟩,
   ⟨(some 39), .mv, [.t 43], none⟩,
   ⟨(some 44), (.ext 0), [.t 39], none⟩,
   ⟨(some 45), (.ext 1), [.t 39], none⟩,
   ⟨(some 9), .mv, [.t 44], none⟩,
   ⟨(some 10), .mv, [.t 45], none⟩] [0, 5, 7, 8, 9, 10])
 (.seq (.seq (.reg [⟨(some 46), .mv, [.t 10], none⟩,
   ⟨(some 47), (.binI .neq), [.t 46, .c (.i .i64 0)], none⟩,
   ⟨(some 48), .mv, [.t 47], none⟩,
   ⟨(some 49), .mv, [.t 9], (some (48, false))⟩,
   ⟨(some 50), (.len 0), [.t 49], (some (48, false))⟩,
   ⟨(some 51), (.binI .lss), [.t 50, .c (.i .i64 1)], (some (48, false))⟩,
   ⟨(some 52), .pick, [.t 48, .c (.b true), .t 51], none⟩] [0, 5, 7, 8, 9, 52])
 (.cond (.t 52)
  (.seq (.reg [⟨(some 6), .mv, [.c (.b false)], none⟩] [6])
  .ret)
  .skip))
 (.seq (.reg [⟨(some 53), .mv, [.t 9], none⟩,
   ⟨(some 54), (.ixA 2 1 false), [.t 5, .c (.i .i64 1)], none⟩,
   ⟨(some 55), (.ld 1 false), [.t 54], none⟩,
   ⟨(some 56), (.conv .u64), [.t 55], none⟩,
   ⟨(some 57), .mv, [.t 9], none⟩,
   ⟨(some 58), (.len 0), [.t 57], none⟩,
   ⟨(some 59), (.conv .u64), [.t 58], none⟩,
   ⟨(some 60), (.binI .rem), [.t 56, .t 59], none⟩,
   ⟨(some 61), (.conv .i64), [.t 60], none⟩,
   ⟨(some 62), (.ixS 1 false), [.t 53, .t 61], none⟩,
   ⟨(some 63), (.ld 1 false), [.t 62], none⟩,
   ⟨(some 11), .mv, [.t 63], none⟩] [0, 7, 8, 11])
 (.seq (.seq (.reg [⟨(some 64), .mv, [.t 11], none⟩,
   ⟨(some 65), (.binI .lss), [.t 64, .c (.i .i64 0)], none⟩,
   ⟨(some 66), .mv, [.t 65], none⟩,
   ⟨(some 67), .mv, [.t 11], (some (66, false))⟩,
   ⟨(some 68), .mv, [.t 0], (some (66, false))⟩,
   ⟨(some 69), (.binI .shl), [.c (.i .i64 1), .t 68], (some (66, false))⟩,
   ⟨(some 70), (.binI .geq), [.t 67, .t 69], (some (66, false))⟩,
   ⟨(some 71), .pick, [.t 66, .c (.b true), .t 70], none⟩] [0, 7, 8, 11, 71])
 (.cond (.t 71)
  (.seq (.reg [⟨(some 6), .mv, [.c (.b false)], none⟩] [6])
  .ret)
  .skip))
 (.seq (.reg [⟨(some 73), .mv, [.t 0], none⟩,
   ⟨(some 74), .mv, [.t 7], none⟩,
   ⟨(some 75), .mv, [.t 8], none⟩,
   ⟨(some 76), .mv, [.t 11], none⟩,
   ⟨(some 77), (.call (.pu [])), [.c (.fn 20 [] []), .t 73, .t 74, .t 75, .t 76], none⟩,
   ⟨(some 72), .mv, [.t 77], none⟩,
   ⟨(some 78), (.ext 0), [.t 72], none⟩,
   ⟨(some 79), (.ext 1), [.t 72], none⟩,
   ⟨(some 80), (.ext 2), [.t 72], none⟩,
   ⟨(some 12), .mv, [.t 78], none⟩,
   ⟨(some 13), .mv, [.t 79], none⟩,
   ⟨(some 14), .mv, [.t 80], none⟩] [0, 7, 8, 11, 12, 13, 14])
 (.seq (.reg [⟨(some 82), .mv, [.t 0], none⟩,
   ⟨(some 83), .mv, [.t 7], none⟩,
   ⟨(some 84), .mv, [.t 8], none⟩,
   ⟨(some 85), .mv, [.t 11], none⟩,
   ⟨(some 86), (.call (.pu [])), [.c (.fn 28 [] []), .t 82, .t 83, .t 84, .t 85], none⟩,
   ⟨(some 81), .mv, [.t 86], none⟩,
   ⟨(some 87), (.ext 0), [.t 81], none⟩,
   ⟨(some 88), (.ext 1), [.t 81], none⟩,
   ⟨(some 15), .mv, [.t 87], none⟩,
   ⟨(some 16), .mv, [.t 88], none⟩] [0, 7, 8, 11, 12, 13, 14, 15, 16])
 (.seq (.reg [⟨(some 90), .mv, [.t 0], none⟩,
   ⟨(some 91), .mv, [.t 7], none⟩,
   ⟨(some 92), .mv, [.t 8], none⟩,
   ⟨(some 93), .mv, [.t 11], none⟩,
   ⟨(some 94), (.call (.pu [])), [.c (.fn 41 [] []), .t 90, .t 91, .t 92, .t 93], none⟩,
   ⟨(some 89), .mv, [.t 94], none⟩,
   ⟨(some 95), (.ext 0), [.t 89], none⟩,
   ⟨(some 96), (.ext 1), [.t 89], none⟩,
   ⟨(some 97), (.ext 2), [.t 89], none⟩,
   ⟨(some 17), .mv, [.t 95], none⟩,
   ⟨(some 18), .mv, [.t 96], none⟩,
   ⟨(some 19), .mv, [.t 97], none⟩] [0, 7, 8, 11, 12, 13, 14, 15, 16, 18, 19])
 (.seq (.reg [⟨(some 99), .mv, [.t 0], none⟩,
   ⟨(some 100), .mv, [.t 7], none⟩,
   ⟨(some 101), .mv, [.t 8], none⟩,
   ⟨(some 102), .mv, [.t 11], none⟩,
   ⟨(some 103), (.call (.pu [])), [.c (.fn 42 [] []), .t 99, .t 100, .t 101, .t 102], none⟩,
   ⟨(some 98), .mv, [.t 103], none⟩,
   ⟨(some 104), (.ext 0), [.t 98], none⟩,
   ⟨(some 105), (.ext 1), [.t 98], none⟩,
   ⟨(some 106), (.ext 2), [.t 98], none⟩,
   ⟨(some 107), (.ext 3), [.t 98], none⟩,
   ⟨(some 20), .mv, [.t 104], none⟩,
   ⟨(some 21), .mv, [.t 105], none⟩,
   ⟨(some 22), .mv, [.t 106], none⟩,
   ⟨(some 23), .mv, [.t 107], none⟩] [0, 7, 8, 11, 12, 13, 14, 15, 16, 18, 19, 22, 23])
 (.seq (.reg [⟨(some 109), .mv, [.t 0], none⟩,
   ⟨(some 110), .mv, [.t 7], none⟩,
   ⟨(some 111), .mv, [.t 8], none⟩,
   ⟨(some 112), .mv, [.t 12], none⟩,
   ⟨(some 113), (.call (.pu [])), [.c (.fn 40 [] []), .t 109, .t 110, .t 111, .t 112], none⟩,
   ⟨(some 108), .mv, [.t 113], none⟩,
   ⟨(some 114), (.ext 0), [.t 108], none⟩,
   ⟨(some 115), (.ext 1), [.t 108], none⟩,
   ⟨(some 24), .mv, [.t 114], none⟩,
   ⟨(some 25), .mv, [.t 115], none⟩] [8, 11, 12, 13, 14, 15, 16, 18, 19, 22, 23, 24, 25])
 (.seq (.reg [⟨(some 116), .mv, [.t 14], none⟩,
   ⟨(some 117), (.binI .eql), [.t 116, .c (.i .i64 0)], none⟩,
   ⟨(some 118), .mv, [.t 117], none⟩,
   ⟨(some 119), .mv, [.t 16], (some (118, true))⟩,
   ⟨(some 120), (.binI .eql), [.t 119, .c (.i .i64 0)], (some (118, true))⟩,
   ⟨(some 121), .pick, [.t 118, .t 120, .c (.b false)], none⟩,
   ⟨(some 122), .mv, [.t 121], none⟩,
   ⟨(some 123), .mv, [.t 19], (some (122, true))⟩,
   ⟨(some 124), (.binI .eql), [.t 123, .c (.i .i64 0)], (some (122, true))⟩,
   ⟨(some 125), .pick, [.t 122, .t 124, .c (.b false)], none⟩,
   ⟨(some 126), .mv, [.t 125], none⟩,
   ⟨(some 127), .mv, [.t 23], (some (126, true))⟩,
   ⟨(some 128), (.binI .eql), [.t 127, .c (.i .i64 0)], (some (126, true))⟩,
   ⟨(some 129), .pick, [.t 126, .t 128, .c (.b false)], none⟩,
   ⟨(some 130), .mv, [.t 129], none⟩,
   ⟨(some 131), .mv, [.t 25], (some (130, true))⟩,
   ⟨(some 132), (.binI .eql), [.t 131, .c (.i .i64 0)], (some (130, true))⟩,
   ⟨(some 133), .pick, [.t 130, .t 132, .c (.b false)], none⟩,
   ⟨(some 134), .mv, [.t 133], none⟩,
   ⟨(some 135), .mv, [.t 13], (some (134, true))⟩,
   ⟨(some 136), .pick, [.t 134, .t 135, .c (.b false)], none⟩,
   ⟨(some 137), .mv, [.t 136], none⟩,
   ⟨(some 138), .mv, [.t 15], (some (137, true))⟩,
   ⟨(some 139), .pick, [.t 137, .t 138, .c (.b false)], none⟩,
   ⟨(some 140), .mv, [.t 139], none⟩,
   ⟨(some 141), .mv, [.t 18], (some (140, true))⟩,
   ⟨(some 142), .notB, [.t 141], (some (140, true))⟩,
   ⟨(some 143), .pick, [.t 140, .t 142, .c (.b false)], none⟩,
   ⟨(some 144), .mv, [.t 143], none⟩,
   ⟨(some 145), .mv, [.t 22], (some (144, true))⟩,
   ⟨(some 146), .pick, [.t 144, .t 145, .c (.b false)], none⟩,
   ⟨(some 147), .mv, [.t 146], none⟩,
   ⟨(some 148), .mv, [.t 24], (some (147, true))⟩,
   ⟨(some 149), .mv, [.t 11], (some (147, true))⟩,
   ⟨(some 150), (.binI .eql), [.t 148, .t 149], (some (147, true))⟩,
   ⟨(some 151), .pick, [.t 147, .t 150, .c (.b false)], none⟩,
   ⟨(some 152), .mv, [.t 151], none⟩,
   ⟨(some 153), .mv, [.t 12], (some (152, true))⟩,
   ⟨(some 154), (.len 0), [.t 153], (some (152, true))⟩,
   ⟨(some 155), .mv, [.t 8], (some (152, true))⟩,
   ⟨(some 156), (.call (.pu [])), [.c (.fn 23 [] []), .t 155], (some (152, true))⟩,
   ⟨(some 157), .mv, [.t 11], (some (152, true))⟩,
   ⟨(some 158), (.call (.pu [])), [.c (.fn 23 [] []), .t 157], (some (152, true))⟩,
   ⟨(some 159), (.binI .sub), [.t 156, .t 158], (some (152, true))⟩,
   ⟨(some 160), (.binI .eql), [.t 154, .t 159], (some (152, true))⟩,
   ⟨(some 161), .pick, [.t 152, .t 160, .c (.b false)], none⟩,
   ⟨(some 162), .mv, [.t 161], none⟩,
   ⟨(some 163), (.call (.pu [])), [.c (.fn 22 [] [])], (some (162, true))⟩,
   ⟨(some 164), .pick, [.t 162, .t 163, .c (.b false)], none⟩,
   ⟨(some 6), .mv, [.t 164], none⟩] [6])
 .ret)))))))))))))

def d12 : DFun := ⟨3, 165, c12, [.t 6]⟩

theorem ok12 : Fok Try.prog 12 d12 := ⟨Try.f12, Try.func12, by kernel_rfl, by kernel_rfl⟩

-- bibelot/bibelotlaw02.PegJumps
def b13_0 : DC :=
 (.seq (.seq (.reg [⟨(some 43), .mv, [.t 11], none⟩,
   ⟨(some 44), .mv, [.t 8], none⟩,
   ⟨(some 45), (.len 0), [.t 44], none⟩,
   ⟨(some 46), (.binI .lss), [.t 43, .t 45], none⟩] [8, 10, 11, 46])
 (.cond (.t 46)
  .skip
  (.exit 0)))
 (.seq (.block 1
  (.seq (.reg [⟨(some 49), .mv, [.t 8], none⟩,
    ⟨(some 50), .mv, [.t 11], none⟩,
    ⟨(some 51), (.ixS 3 true), [.t 49, .t 50], none⟩,
    ⟨(some 52), (.ld 3 true), [.t 51], none⟩,
    ⟨(some 53), .mv, [.t 10], none⟩,
    ⟨(some 54), .mv, [.t 11], none⟩,
    ⟨(some 55), (.ixS 3 true), [.t 53, .t 54], none⟩,
    ⟨(some 56), (.ld 3 true), [.t 55], none⟩,
    ⟨(some 57), (.eqA true [true, true, true]), [.t 52, .t 56], none⟩] [8, 10, 11, 57])
  (.cond (.t 57)
   (.seq (.reg [⟨(some 6), .mv, [.c (.b false)], none⟩] [6])
   .ret)
   .skip)))
 (.reg [⟨(some 47), .mv, [.t 11], none⟩,
   ⟨(some 48), (.binI .add), [.t 47, .c (.i .i64 1)], none⟩,
   ⟨(some 11), .mv, [.t 48], none⟩] [8, 10, 11])))

def l13_1 : DC :=
 (.loop [8, 10, 11] b13_0)

def c13 : DC :=
 (.seq (.reg [⟨(some 6), .mv, [.c (.b false)], none⟩] [0, 1, 2])
 (.seq (.reg [⟨(some 13), .mv, [.t 0], none⟩,
   ⟨(some 14), .mv, [.t 1], none⟩,
   ⟨(some 15), (.call (.pu [])), [.c (.fn 18 [] []), .t 13, .t 14, .c (.i .i64 16), .c (.i .i64 40)], none⟩,
   ⟨(some 12), .mv, [.t 15], none⟩,
   ⟨(some 16), (.ext 0), [.t 12], none⟩,
   ⟨(some 17), (.ext 1), [.t 12], none⟩,
   ⟨(some 0), .mv, [.t 16], none⟩,
   ⟨(some 7), .mv, [.t 17], none⟩] [0, 2, 7])
 (.seq (.reg [⟨(some 18), .mv, [.t 2], none⟩,
   ⟨(some 19), (.conv .u64), [.t 18], none⟩,
   ⟨(some 20), .mv, [.t 0], none⟩,
   ⟨(some 21), (.binI .shl), [.c (.i .u64 1), .t 20], none⟩,
   ⟨(some 22), (.binI .rem), [.t 19, .t 21], none⟩,
   ⟨(some 23), (.conv .i64), [.t 22], none⟩,
   ⟨(some 2), .mv, [.t 23], none⟩] [0, 2, 7])
 (.seq (.reg [⟨(some 25), .mv, [.t 0], none⟩,
   ⟨(some 26), .mv, [.t 7], none⟩,
   ⟨(some 27), .mv, [.t 2], none⟩,
   ⟨(some 28), (.call (.pu [])), [.c (.fn 43 [] []), .t 25, .t 26, .t 27], none⟩,
   ⟨(some 24), .mv, [.t 28], none⟩,
   ⟨(some 29), (.ext 0), [.t 24], none⟩,
   ⟨(some 30), (.ext 1), [.t 24], none⟩,
   ⟨(some 8), .mv, [.t 29], none⟩,
   ⟨(some 9), .mv, [.t 30], none⟩] [2, 7, 8, 9])
 (.seq (.reg [⟨(some 31), .mv, [.t 7], none⟩,
   ⟨(some 32), .mv, [.t 2], none⟩,
   ⟨(some 33), (.call (.pu [])), [.c (.fn 38 [] []), .t 31, .t 32], none⟩,
   ⟨(some 10), .mv, [.t 33], none⟩] [8, 9, 10])
 (.seq (.seq (.reg [⟨(some 34), .mv, [.t 9], none⟩,
   ⟨(some 35), (.binI .neq), [.t 34, .c (.i .i64 0)], none⟩,
   ⟨(some 36), .mv, [.t 35], none⟩,
   ⟨(some 37), .mv, [.t 8], (some (36, false))⟩,
   ⟨(some 38), (.len 0), [.t 37], (some (36, false))⟩,
   ⟨(some 39), .mv, [.t 10], (some (36, false))⟩,
   ⟨(some 40), (.len 0), [.t 39], (some (36, false))⟩,
   ⟨(some 41), (.binI .neq), [.t 38, .t 40], (some (36, false))⟩,
   ⟨(some 42), .pick, [.t 36, .c (.b true), .t 41], none⟩] [8, 10, 42])
 (.cond (.t 42)
  (.seq (.reg [⟨(some 6), .mv, [.c (.b false)], none⟩] [6])
  .ret)
  .skip))
 (.seq (.seq (.reg [⟨(some 11), .mv, [.c (.i .i64 0)], none⟩] [8, 10, 11])
 (.block 0
  l13_1))
 (.seq (.reg [⟨(some 58), (.call (.pu [])), [.c (.fn 22 [] [])], none⟩,
   ⟨(some 6), .mv, [.t 58], none⟩] [6])
 .ret))))))))

def d13 : DFun := ⟨3, 59, c13, [.t 6]⟩

theorem ok13 : Fok Try.prog 13 d13 := ⟨Try.f13, Try.func13, by kernel_rfl, by kernel_rfl⟩

-- bibelot/bibelotlaw02.PegOwn
def b14_0 : DC :=
 (.seq (.seq (.reg [⟨(some 56), .mv, [.t 15], none⟩,
   ⟨(some 57), .mv, [.t 9], none⟩,
   ⟨(some 58), (.len 0), [.t 57], none⟩,
   ⟨(some 59), (.binI .lss), [.t 56, .t 58], none⟩] [0, 7, 8, 9, 10, 11, 12, 13, 14, 15, 59])
 (.cond (.t 59)
  .skip
  (.exit 0)))
 (.seq (.block 1
  (.reg [⟨(some 62), .mv, [.t 9], none⟩,
    ⟨(some 63), .mv, [.t 15], none⟩,
    ⟨(some 64), (.build [(.i .i64 0), (.i .i64 0), (.i .i64 0)] [(0, 1), (1, 1), (2, 1)]), [.c (.i .i64 (-1)), .c (.i .i64 (-1)), .c (.i .i64 (-1))], none⟩,
    ⟨(some 65), (.ixS 3 true), [.t 62, .t 63], none⟩,
    ⟨none, (.st 3), [.t 65, .t 64], none⟩] [0, 7, 8, 9, 10, 11, 12, 13, 14, 15]))
 (.reg [⟨(some 60), .mv, [.t 15], none⟩,
   ⟨(some 61), (.binI .add), [.t 60, .c (.i .i64 1)], none⟩,
   ⟨(some 15), .mv, [.t 61], none⟩] [0, 7, 8, 9, 10, 11, 12, 13, 14, 15])))

def l14_1 : DC :=
 (.loop [0, 7, 8, 9, 10, 11, 12, 13, 14, 15] b14_0)

def b14_2 : DC :=
 (.seq (.seq (.reg [⟨(some 73), .mv, [.t 18], none⟩,
   ⟨(some 74), .mv, [.t 16], none⟩,
   ⟨(some 75), .mv, [.t 17], none⟩,
   ⟨(some 76), (.ixS 1 false), [.t 74, .t 75], none⟩,
   ⟨(some 77), (.ld 1 false), [.t 76], none⟩,
   ⟨(some 78), (.len 0), [.t 77], none⟩,
   ⟨(some 79), (.binI .lss), [.t 73, .t 78], none⟩] [0, 7, 8, 10, 12, 14, 16, 17, 18, 79])
 (.cond (.t 79)
  .skip
  (.exit 4)))
 (.seq (.block 5
  (.reg [⟨(some 82), .mv, [.t 16], none⟩,
    ⟨(some 83), .mv, [.t 17], none⟩,
    ⟨(some 84), (.ixS 1 false), [.t 82, .t 83], none⟩,
    ⟨(some 85), (.ld 1 false), [.t 84], none⟩,
    ⟨(some 86), .mv, [.t 18], none⟩,
    ⟨(some 87), (.ixS 1 false), [.t 85, .t 86], none⟩,
    ⟨none, (.st 1), [.t 87, .c (.i .i64 (-1))], none⟩] [0, 7, 8, 10, 12, 14, 16, 17, 18]))
 (.reg [⟨(some 80), .mv, [.t 18], none⟩,
   ⟨(some 81), (.binI .add), [.t 80, .c (.i .i64 1)], none⟩,
   ⟨(some 18), .mv, [.t 81], none⟩] [0, 7, 8, 10, 12, 14, 16, 17, 18])))

def l14_3 : DC :=
 (.loop [0, 7, 8, 10, 12, 14, 16, 17, 18] b14_2)

def b14_4 : DC :=
 (.seq (.seq (.reg [⟨(some 69), .mv, [.t 17], none⟩,
   ⟨(some 70), (.binI .lss), [.t 69, .c (.i .i64 2)], none⟩] [0, 7, 8, 10, 12, 14, 16, 17, 70])
 (.cond (.t 70)
  .skip
  (.exit 2)))
 (.seq (.block 3
  (.seq (.reg [⟨(some 18), .mv, [.c (.i .i64 0)], none⟩] [0, 7, 8, 10, 12, 14, 16, 17, 18])
  (.block 4
   l14_3)))
 (.reg [⟨(some 71), .mv, [.t 17], none⟩,
   ⟨(some 72), (.binI .add), [.t 71, .c (.i .i64 1)], none⟩,
   ⟨(some 17), .mv, [.t 72], none⟩] [0, 7, 8, 10, 12, 14, 16, 17])))

def l14_5 : DC :=
 (.loop [0, 7, 8, 10, 12, 14, 16, 17] b14_4)

def b14_6 : DC :=
 (.seq (.seq (.reg [⟨(some 123), .mv, [.t 21], none⟩,
   ⟨(some 124), .mv, [.t 7], none⟩,
   ⟨(some 125), (.len 0), [.t 124], none⟩,
   ⟨(some 126), (.binI .lss), [.t 123, .t 125], none⟩] [7, 8, 21, 126])
 (.cond (.t 126)
  .skip
  (.exit 6)))
 (.seq (.block 7
  (.seq (.reg [⟨(some 129), .mv, [.t 7], none⟩,
    ⟨(some 130), .mv, [.t 21], none⟩,
    ⟨(some 131), (.ixS 3 true), [.t 129, .t 130], none⟩,
    ⟨(some 132), (.ld 3 true), [.t 131], none⟩,
    ⟨(some 133), .mv, [.t 8], none⟩,
    ⟨(some 134), .mv, [.t 21], none⟩,
    ⟨(some 135), (.ixS 3 true), [.t 133, .t 134], none⟩,
    ⟨(some 136), (.ld 3 true), [.t 135], none⟩,
    ⟨(some 137), (.eqA true [true, true, true]), [.t 132, .t 136], none⟩] [7, 8, 21, 137])
  (.cond (.t 137)
   (.seq (.reg [⟨(some 6), .mv, [.c (.b false)], none⟩] [6])
   .ret)
   .skip)))
 (.reg [⟨(some 127), .mv, [.t 21], none⟩,
   ⟨(some 128), (.binI .add), [.t 127, .c (.i .i64 1)], none⟩,
   ⟨(some 21), .mv, [.t 128], none⟩] [7, 8, 21])))

def l14_7 : DC :=
 (.loop [7, 8, 21] b14_6)

def c14 : DC :=
 (.seq (.reg [⟨(some 6), .mv, [.c (.b false)], none⟩] [0, 1, 2])
 (.seq (.reg [⟨(some 23), .mv, [.t 0], none⟩,
   ⟨(some 24), .mv, [.t 1], none⟩,
   ⟨(some 25), (.call (.pu [])), [.c (.fn 18 [] []), .t 23, .t 24, .c (.i .i64 10), .c (.i .i64 12)], none⟩,
   ⟨(some 22), .mv, [.t 25], none⟩,
   ⟨(some 26), (.ext 0), [.t 22], none⟩,
   ⟨(some 27), (.ext 1), [.t 22], none⟩,
   ⟨(some 0), .mv, [.t 26], none⟩,
   ⟨(some 7), .mv, [.t 27], none⟩] [0, 2, 7])
 (.seq (.reg [⟨(some 28), .mv, [.t 7], none⟩,
   ⟨(some 29), (.call (.pu [])), [.c (.fn 44 [] []), .t 28], none⟩,
   ⟨(some 8), .mv, [.t 29], none⟩] [0, 2, 7, 8])
 (.seq (.reg [⟨(some 30), .mv, [.t 2], none⟩,
   ⟨(some 31), (.conv .u64), [.t 30], none⟩,
   ⟨(some 32), .mv, [.t 0], none⟩,
   ⟨(some 33), (.binI .shl), [.c (.i .u64 1), .t 32], none⟩,
   ⟨(some 34), (.binI .rem), [.t 31, .t 33], none⟩,
   ⟨(some 35), (.conv .i64), [.t 34], none⟩,
   ⟨(some 2), .mv, [.t 35], none⟩] [0, 2, 7, 8])
 (.seq (.reg [⟨(some 37), .mv, [.t 0], none⟩,
   ⟨(some 38), .mv, [.t 7], none⟩,
   ⟨(some 39), .mv, [.t 2], none⟩,
   ⟨(some 40), (.call (.pu [])), [.c (.fn 43 [] []), .t 37, .t 38, .t 39], none⟩,
   ⟨(some 36), .mv, [.t 40], none⟩,
   ⟨(some 41), (.ext 0), [.t 36], none⟩,
   ⟨(some 42), (.ext 1), [.t 36], none⟩,
   ⟨(some 9), .mv, [.t 41], none⟩,
   ⟨(some 10), .mv, [.t 42], none⟩] [0, 2, 7, 8, 9, 10])
 (.seq (.reg [⟨(some 44), .mv, [.t 0], none⟩,
   ⟨(some 45), .mv, [.t 7], none⟩,
   ⟨(some 46), (.call (.pu [])), [.c (.fn 27 [] []), .t 44, .t 45], none⟩,
   ⟨(some 43), .mv, [.t 46], none⟩,
   ⟨(some 47), (.ext 0), [.t 43], none⟩,
   ⟨(some 48), (.ext 1), [.t 43], none⟩,
   ⟨(some 11), .mv, [.t 47], none⟩,
   ⟨(some 12), .mv, [.t 48], none⟩] [0, 2, 7, 8, 9, 10, 11, 12])
 (.seq (.reg [⟨(some 50), .mv, [.t 0], none⟩,
   ⟨(some 51), .mv, [.t 7], none⟩,
   ⟨(some 52), .mv, [.t 2], none⟩,
   ⟨(some 53), (.call (.pu [])), [.c (.fn 24 [] []), .t 50, .t 51, .t 52], none⟩,
   ⟨(some 49), .mv, [.t 53], none⟩,
   ⟨(some 54), (.ext 0), [.t 49], none⟩,
   ⟨(some 55), (.ext 1), [.t 49], none⟩,
   ⟨(some 13), .mv, [.t 54], none⟩,
   ⟨(some 14), .mv, [.t 55], none⟩] [0, 7, 8, 9, 10, 11, 12, 13, 14])
 (.seq (.seq (.reg [⟨(some 15), .mv, [.c (.i .i64 0)], none⟩] [0, 7, 8, 9, 10, 11, 12, 13, 14, 15])
 (.block 0
  l14_1))
 (.seq (.reg [⟨(some 66), .mv, [.t 11], none⟩,
   ⟨(some 67), .mv, [.t 13], none⟩,
   ⟨(some 68), (.bsl false [.nilsl] false 2 [0, 1]), [.t 66, .t 67], none⟩,
   ⟨(some 16), .mv, [.t 68], none⟩] [0, 7, 8, 10, 12, 14, 16])
 (.seq (.seq (.reg [⟨(some 17), .mv, [.c (.i .i64 0)], none⟩] [0, 7, 8, 10, 12, 14, 16, 17])
 (.block 2
  l14_5))
 (.seq (.reg [⟨(some 89), .mv, [.t 0], none⟩,
   ⟨(some 90), .mv, [.t 7], none⟩,
   ⟨(some 91), (.call (.pu [])), [.c (.fn 27 [] []), .t 89, .t 90], none⟩,
   ⟨(some 88), .mv, [.t 91], none⟩,
   ⟨(some 92), (.ext 0), [.t 88], none⟩,
   ⟨(some 93), (.ext 1), [.t 88], none⟩,
   ⟨(some 19), .mv, [.t 92], none⟩,
   ⟨(some 20), .mv, [.t 93], none⟩] [0, 7, 8, 10, 12, 14, 19, 20])
 (.seq (.seq (.reg [⟨(some 94), .mv, [.t 10], none⟩,
   ⟨(some 95), (.binI .neq), [.t 94, .c (.i .i64 0)], none⟩,
   ⟨(some 96), .mv, [.t 95], none⟩,
   ⟨(some 97), .mv, [.t 12], (some (96, false))⟩,
   ⟨(some 98), (.binI .neq), [.t 97, .c (.i .i64 0)], (some (96, false))⟩,
   ⟨(some 99), .pick, [.t 96, .c (.b true), .t 98], none⟩,
   ⟨(some 100), .mv, [.t 99], none⟩,
   ⟨(some 101), .mv, [.t 14], (some (100, false))⟩,
   ⟨(some 102), (.binI .neq), [.t 101, .c (.i .i64 0)], (some (100, false))⟩,
   ⟨(some 103), .pick, [.t 100, .c (.b true), .t 102], none⟩,
   ⟨(some 104), .mv, [.t 103], none⟩,
   ⟨(some 105), .mv, [.t 20], (some (104, false))⟩,
   ⟨(some 106), (.binI .neq), [.t 105, .c (.i .i64 0)], (some (104, false))⟩,
   ⟨(some 107), .pick, [.t 104, .c (.b true), .t 106], none⟩,
   ⟨(some 108), .mv, [.t 107], none⟩,
   ⟨(some 109), .mv, [.t 19], (some (108, false))⟩,
   ⟨(some 110), .mv, [.t 0], (some (108, false))⟩,
   ⟨(some 111), .mv, [.t 8], (some (108, false))⟩,
   ⟨(some 112), (.call (.pu [])), [.c (.fn 29 [] []), .t 110, .t 111], (some (108, false))⟩,
   ⟨(some 113), (.call (.pu [])), [.c (.fn 26 [] []), .t 109, .t 112], (some (108, false))⟩,
   ⟨(some 114), .notB, [.t 113], (some (108, false))⟩,
   ⟨(some 115), .pick, [.t 108, .c (.b true), .t 114], none⟩,
   ⟨(some 116), .mv, [.t 115], none⟩,
   ⟨(some 117), .mv, [.t 7], (some (116, false))⟩,
   ⟨(some 118), (.len 0), [.t 117], (some (116, false))⟩,
   ⟨(some 119), .mv, [.t 8], (some (116, false))⟩,
   ⟨(some 120), (.len 0), [.t 119], (some (116, false))⟩,
   ⟨(some 121), (.binI .neq), [.t 118, .t 120], (some (116, false))⟩,
   ⟨(some 122), .pick, [.t 116, .c (.b true), .t 121], none⟩] [7, 8, 122])
 (.cond (.t 122)
  (.seq (.reg [⟨(some 6), .mv, [.c (.b false)], none⟩] [6])
  .ret)
  .skip))
 (.seq (.seq (.reg [⟨(some 21), .mv, [.c (.i .i64 0)], none⟩] [7, 8, 21])
 (.block 6
  l14_7))
 (.seq (.reg [⟨(some 138), (.call (.pu [])), [.c (.fn 22 [] [])], none⟩,
   ⟨(some 6), .mv, [.t 138], none⟩] [6])
 .ret))))))))))))))

def d14 : DFun := ⟨3, 139, c14, [.t 6]⟩

theorem ok14 : Fok Try.prog 14 d14 := ⟨Try.f14, Try.func14, by kernel_rfl, by kernel_rfl⟩

-- bibelot/bibelotlaw02.PegMixed
def b15_0 : DC :=
 (.seq (.seq (.reg [⟨(some 70), .mv, [.t 16], none⟩,
   ⟨(some 71), .mv, [.t 10], none⟩,
   ⟨(some 72), (.len 0), [.t 71], none⟩,
   ⟨(some 73), (.binI .lss), [.t 70, .t 72], none⟩] [0, 5, 7, 8, 9, 10, 12, 14, 15, 16, 73])
 (.cond (.t 73)
  .skip
  (.exit 0)))
 (.seq (.block 1
  (.seq (.seq (.reg [⟨(some 76), .mv, [.t 10], none⟩,
    ⟨(some 77), .mv, [.t 16], none⟩,
    ⟨(some 78), (.ixS 1 false), [.t 76, .t 77], none⟩,
    ⟨(some 79), (.ld 1 false), [.t 78], none⟩,
    ⟨(some 80), (.binI .lss), [.t 79, .c (.i .i64 1)], none⟩,
    ⟨(some 81), .mv, [.t 80], none⟩,
    ⟨(some 82), .mv, [.t 10], (some (81, false))⟩,
    ⟨(some 83), .mv, [.t 16], (some (81, false))⟩,
    ⟨(some 84), (.ixS 1 false), [.t 82, .t 83], (some (81, false))⟩,
    ⟨(some 85), (.ld 1 false), [.t 84], (some (81, false))⟩,
    ⟨(some 86), .mv, [.t 0], (some (81, false))⟩,
    ⟨(some 87), (.binI .shl), [.c (.i .i64 1), .t 86], (some (81, false))⟩,
    ⟨(some 88), (.binI .geq), [.t 85, .t 87], (some (81, false))⟩,
    ⟨(some 89), .pick, [.t 81, .c (.b true), .t 88], none⟩,
    ⟨(some 90), .mv, [.t 89], none⟩,
    ⟨(some 91), .mv, [.t 7], (some (90, false))⟩,
    ⟨(some 92), .mv, [.t 10], (some (90, false))⟩,
    ⟨(some 93), .mv, [.t 16], (some (90, false))⟩,
    ⟨(some 94), (.ixS 1 false), [.t 92, .t 93], (some (90, false))⟩,
    ⟨(some 95), (.ld 1 false), [.t 94], (some (90, false))⟩,
    ⟨(some 96), (.call (.pu [])), [.c (.fn 45 [] []), .t 91, .t 95], (some (90, false))⟩,
    ⟨(some 97), .notB, [.t 96], (some (90, false))⟩,
    ⟨(some 98), .pick, [.t 90, .c (.b true), .t 97], none⟩,
    ⟨(some 99), .mv, [.t 98], none⟩,
    ⟨(some 100), .mv, [.t 16], (some (99, false))⟩,
    ⟨(some 101), (.binI .gtr), [.t 100, .c (.i .i64 0)], (some (99, false))⟩,
    ⟨(some 102), .mv, [.t 101], (some (99, false))⟩,
    ⟨(some 103), .mv, [.t 10], (some (102, true))⟩,
    ⟨(some 104), .mv, [.t 16], (some (102, true))⟩,
    ⟨(some 105), (.binI .sub), [.t 104, .c (.i .i64 1)], (some (102, true))⟩,
    ⟨(some 106), (.ixS 1 false), [.t 103, .t 105], (some (102, true))⟩,
    ⟨(some 107), (.ld 1 false), [.t 106], (some (102, true))⟩,
    ⟨(some 108), .mv, [.t 10], (some (102, true))⟩,
    ⟨(some 109), .mv, [.t 16], (some (102, true))⟩,
    ⟨(some 110), (.ixS 1 false), [.t 108, .t 109], (some (102, true))⟩,
    ⟨(some 111), (.ld 1 false), [.t 110], (some (102, true))⟩,
    ⟨(some 112), (.binI .geq), [.t 107, .t 111], (some (102, true))⟩,
    ⟨(some 113), .pick, [.t 102, .t 112, .c (.b false)], (some (99, false))⟩,
    ⟨(some 114), .pick, [.t 99, .c (.b true), .t 113], none⟩] [0, 5, 7, 8, 9, 10, 12, 14, 15, 16, 114])
  (.cond (.t 114)
   (.seq (.reg [⟨(some 6), .mv, [.c (.b false)], none⟩] [6])
   .ret)
   .skip))
  (.seq (.reg [⟨(some 115), .mv, [.t 14], none⟩,
    ⟨(some 116), .mv, [.t 115], none⟩,
    ⟨(some 117), .mv, [.t 10], (some (116, true))⟩,
    ⟨(some 118), .mv, [.t 16], (some (116, true))⟩,
    ⟨(some 119), (.ixS 1 false), [.t 117, .t 118], (some (116, true))⟩,
    ⟨(some 120), (.ld 1 false), [.t 119], (some (116, true))⟩,
    ⟨(some 121), .mv, [.t 8], (some (116, true))⟩,
    ⟨(some 122), (.binI .and), [.t 120, .t 121], (some (116, true))⟩,
    ⟨(some 123), (.call (.pu [])), [.c (.fn 23 [] []), .t 122], (some (116, true))⟩,
    ⟨(some 124), .mv, [.t 10], (some (116, true))⟩,
    ⟨(some 125), .mv, [.t 16], (some (116, true))⟩,
    ⟨(some 126), (.ixS 1 false), [.t 124, .t 125], (some (116, true))⟩,
    ⟨(some 127), (.ld 1 false), [.t 126], (some (116, true))⟩,
    ⟨(some 128), .mv, [.t 9], (some (116, true))⟩,
    ⟨(some 129), (.binI .and), [.t 127, .t 128], (some (116, true))⟩,
    ⟨(some 130), (.call (.pu [])), [.c (.fn 23 [] []), .t 129], (some (116, true))⟩,
    ⟨(some 131), (.binI .add), [.t 123, .t 130], (some (116, true))⟩,
    ⟨(some 132), (.binI .rem), [.t 131, .c (.i .i64 2)], (some (116, true))⟩,
    ⟨(some 133), (.binI .eql), [.t 132, .c (.i .i64 0)], (some (116, true))⟩,
    ⟨(some 134), .pick, [.t 116, .t 133, .c (.b false)], none⟩,
    ⟨(some 14), .mv, [.t 134], none⟩] [0, 5, 7, 8, 9, 10, 12, 14, 15, 16])
  (.seq (.reg [⟨(some 135), (.ixA 3 1 false), [.t 5, .c (.i .i64 2)], none⟩,
    ⟨(some 136), (.ld 1 false), [.t 135], none⟩,
    ⟨(some 137), .mv, [.t 16], none⟩,
    ⟨(some 138), (.binI .rem), [.t 137, .c (.i .i64 60)], none⟩,
    ⟨(some 139), (.binI .shr), [.t 136, .t 138], none⟩,
    ⟨(some 140), (.binI .rem), [.t 139, .c (.i .i64 2)], none⟩,
    ⟨(some 141), (.binI .neq), [.t 140, .c (.i .i64 0)], none⟩] [0, 5, 7, 8, 9, 10, 12, 14, 15, 16, 141])
  (.cond (.t 141)
   (.reg [⟨(some 142), .mv, [.t 15], none⟩,
     ⟨(some 143), .mv, [.t 10], none⟩,
     ⟨(some 144), .mv, [.t 16], none⟩,
     ⟨(some 145), (.ixS 1 false), [.t 143, .t 144], none⟩,
     ⟨(some 146), (.ld 1 false), [.t 145], none⟩,
     ⟨(some 147), (.binI .xor), [.t 142, .t 146], none⟩,
     ⟨(some 15), .mv, [.t 147], none⟩] [0, 5, 7, 8, 9, 10, 12, 14, 15, 16])
   .skip)))))
 (.reg [⟨(some 74), .mv, [.t 16], none⟩,
   ⟨(some 75), (.binI .add), [.t 74, .c (.i .i64 1)], none⟩,
   ⟨(some 16), .mv, [.t 75], none⟩] [0, 5, 7, 8, 9, 10, 12, 14, 15, 16])))

def l15_1 : DC :=
 (.loop [0, 5, 7, 8, 9, 10, 12, 14, 15, 16] b15_0)

def b15_2 : DC :=
 (.seq (.seq (.reg [⟨(some 164), .mv, [.t 19], none⟩,
   ⟨(some 165), .mv, [.t 17], none⟩,
   ⟨(some 166), (.len 0), [.t 165], none⟩,
   ⟨(some 167), (.binI .lss), [.t 164, .t 166], none⟩] [0, 7, 8, 17, 18, 19, 167])
 (.cond (.t 167)
  .skip
  (.exit 2)))
 (.seq (.block 3
  (.seq (.reg [⟨(some 171), .mv, [.t 0], none⟩,
    ⟨(some 172), .mv, [.t 7], none⟩,
    ⟨(some 173), .mv, [.t 8], none⟩,
    ⟨(some 174), .mv, [.t 17], none⟩,
    ⟨(some 175), .mv, [.t 19], none⟩,
    ⟨(some 176), .mv, [.t 19], none⟩,
    ⟨(some 177), (.binI .add), [.t 176, .c (.i .i64 1)], none⟩,
    ⟨(some 178), (.slc true true false 3 true), [.t 174, .t 175, .t 177], none⟩,
    ⟨(some 179), (.call (.pu [])), [.c (.fn 40 [] []), .t 171, .t 172, .t 173, .t 178], none⟩,
    ⟨(some 170), .mv, [.t 179], none⟩,
    ⟨(some 180), (.ext 0), [.t 170], none⟩,
    ⟨(some 181), (.ext 1), [.t 170], none⟩,
    ⟨(some 20), .mv, [.t 180], none⟩,
    ⟨(some 21), .mv, [.t 181], none⟩] [0, 7, 8, 17, 18, 19, 20, 21])
  (.seq (.reg [⟨(some 183), .mv, [.t 0], none⟩,
    ⟨(some 184), .mv, [.t 7], none⟩,
    ⟨(some 185), .mv, [.t 8], none⟩,
    ⟨(some 186), .mv, [.t 20], none⟩,
    ⟨(some 187), (.call (.pu [])), [.c (.fn 28 [] []), .t 183, .t 184, .t 185, .t 186], none⟩,
    ⟨(some 182), .mv, [.t 187], none⟩,
    ⟨(some 188), (.ext 0), [.t 182], none⟩,
    ⟨(some 189), (.ext 1), [.t 182], none⟩,
    ⟨(some 22), .mv, [.t 188], none⟩,
    ⟨(some 23), .mv, [.t 189], none⟩] [0, 7, 8, 17, 18, 19, 21, 22, 23])
  (.seq (.reg [⟨(some 190), .mv, [.t 21], none⟩,
    ⟨(some 191), (.binI .neq), [.t 190, .c (.i .i64 0)], none⟩,
    ⟨(some 192), .mv, [.t 191], none⟩,
    ⟨(some 193), .mv, [.t 23], (some (192, false))⟩,
    ⟨(some 194), (.binI .neq), [.t 193, .c (.i .i64 0)], (some (192, false))⟩,
    ⟨(some 195), .pick, [.t 192, .c (.b true), .t 194], none⟩,
    ⟨(some 196), .mv, [.t 195], none⟩,
    ⟨(some 197), .mv, [.t 22], (some (196, false))⟩,
    ⟨(some 198), .notB, [.t 197], (some (196, false))⟩,
    ⟨(some 199), .pick, [.t 196, .c (.b true), .t 198], none⟩] [0, 7, 8, 17, 18, 19, 199])
  (.cond (.t 199)
   (.seq (.reg [⟨(some 6), .mv, [.c (.b false)], none⟩] [6])
   .ret)
   .skip)))))
 (.reg [⟨(some 168), .mv, [.t 19], none⟩,
   ⟨(some 169), (.binI .add), [.t 168, .c (.i .i64 1)], none⟩,
   ⟨(some 19), .mv, [.t 169], none⟩] [0, 7, 8, 17, 18, 19])))

def l15_3 : DC :=
 (.loop [0, 7, 8, 17, 18, 19] b15_2)

def c15 : DC :=
 (.seq (.reg [⟨(some 5), (.box true), [.t 2], none⟩,
   ⟨(some 6), .mv, [.c (.b false)], none⟩] [0, 1, 5])
 (.seq (.reg [⟨(some 25), .mv, [.t 0], none⟩,
   ⟨(some 26), .mv, [.t 1], none⟩,
   ⟨(some 27), (.call (.pu [])), [.c (.fn 18 [] []), .t 25, .t 26, .c (.i .i64 16), .c (.i .i64 20)], none⟩,
   ⟨(some 24), .mv, [.t 27], none⟩,
   ⟨(some 28), (.ext 0), [.t 24], none⟩,
   ⟨(some 29), (.ext 1), [.t 24], none⟩,
   ⟨(some 0), .mv, [.t 28], none⟩,
   ⟨(some 7), .mv, [.t 29], none⟩] [0, 5, 7])
 (.seq (.reg [⟨(some 30), (.ixA 3 1 false), [.t 5, .c (.i .i64 0)], none⟩,
   ⟨(some 31), (.ld 1 false), [.t 30], none⟩,
   ⟨(some 32), (.conv .u64), [.t 31], none⟩,
   ⟨(some 33), .mv, [.t 0], none⟩,
   ⟨(some 34), (.binI .shl), [.c (.i .u64 1), .t 33], none⟩,
   ⟨(some 35), (.binI .rem), [.t 32, .t 34], none⟩,
   ⟨(some 36), (.conv .i64), [.t 35], none⟩,
   ⟨(some 37), (.ixA 3 1 false), [.t 5, .c (.i .i64 1)], none⟩,
   ⟨(some 38), (.ld 1 false), [.t 37], none⟩,
   ⟨(some 39), (.conv .u64), [.t 38], none⟩,
   ⟨(some 40), .mv, [.t 0], none⟩,
   ⟨(some 41), (.binI .shl), [.c (.i .u64 1), .t 40], none⟩,
   ⟨(some 42), (.binI .rem), [.t 39, .t 41], none⟩,
   ⟨(some 43), (.conv .i64), [.t 42], none⟩,
   ⟨(some 8), .mv, [.t 36], none⟩,
   ⟨(some 9), .mv, [.t 43], none⟩] [0, 5, 7, 8, 9])
 (.seq (.reg [⟨(some 45), .mv, [.t 0], none⟩,
   ⟨(some 46), .mv, [.t 7], none⟩,
   ⟨(some 47), (.call (.pu [])), [.c (.fn 27 [] []), .t 45, .t 46], none⟩,
   ⟨(some 44), .mv, [.t 47], none⟩,
   ⟨(some 48), (.ext 0), [.t 44], none⟩,
   ⟨(some 49), (.ext 1), [.t 44], none⟩,
   ⟨(some 10), .mv, [.t 48], none⟩,
   ⟨(some 11), .mv, [.t 49], none⟩] [0, 5, 7, 8, 9, 10, 11])
 (.seq (.reg [⟨(some 51), .mv, [.t 0], none⟩,
   ⟨(some 52), .mv, [.t 7], none⟩,
   ⟨(some 53), .mv, [.t 8], none⟩,
   ⟨(some 54), .mv, [.t 9], none⟩,
   ⟨(some 55), (.call (.pu [])), [.c (.fn 28 [] []), .t 51, .t 52, .t 53, .t 54], none⟩,
   ⟨(some 50), .mv, [.t 55], none⟩,
   ⟨(some 56), (.ext 0), [.t 50], none⟩,
   ⟨(some 57), (.ext 1), [.t 50], none⟩,
   ⟨(some 12), .mv, [.t 56], none⟩,
   ⟨(some 13), .mv, [.t 57], none⟩] [0, 5, 7, 8, 9, 10, 11, 12, 13])
 (.seq (.seq (.reg [⟨(some 58), .mv, [.t 11], none⟩,
   ⟨(some 59), (.binI .neq), [.t 58, .c (.i .i64 0)], none⟩,
   ⟨(some 60), .mv, [.t 59], none⟩,
   ⟨(some 61), .mv, [.t 13], (some (60, false))⟩,
   ⟨(some 62), (.binI .neq), [.t 61, .c (.i .i64 0)], (some (60, false))⟩,
   ⟨(some 63), .pick, [.t 60, .c (.b true), .t 62], none⟩,
   ⟨(some 64), .mv, [.t 63], none⟩,
   ⟨(some 65), .mv, [.t 10], (some (64, false))⟩,
   ⟨(some 66), (.len 0), [.t 65], (some (64, false))⟩,
   ⟨(some 67), .mv, [.t 0], (some (64, false))⟩,
   ⟨(some 68), (.binI .gtr), [.t 66, .t 67], (some (64, false))⟩,
   ⟨(some 69), .pick, [.t 64, .c (.b true), .t 68], none⟩] [0, 5, 7, 8, 9, 10, 12, 69])
 (.cond (.t 69)
  (.seq (.reg [⟨(some 6), .mv, [.c (.b false)], none⟩] [6])
  .ret)
  .skip))
 (.seq (.reg [⟨(some 14), .mv, [.c (.b true)], none⟩] [0, 5, 7, 8, 9, 10, 12, 14])
 (.seq (.reg [⟨(some 15), .mv, [.c (.i .i64 0)], none⟩] [0, 5, 7, 8, 9, 10, 12, 14, 15])
 (.seq (.seq (.reg [⟨(some 16), .mv, [.c (.i .i64 0)], none⟩] [0, 5, 7, 8, 9, 10, 12, 14, 15, 16])
 (.block 0
  l15_1))
 (.seq (.seq (.reg [⟨(some 148), .mv, [.t 14], none⟩,
   ⟨(some 149), .mv, [.t 12], none⟩,
   ⟨(some 150), (.eqB true), [.t 148, .t 149], none⟩,
   ⟨(some 151), .mv, [.t 150], none⟩,
   ⟨(some 152), .mv, [.t 7], (some (151, false))⟩,
   ⟨(some 153), .mv, [.t 15], (some (151, false))⟩,
   ⟨(some 154), (.call (.pu [])), [.c (.fn 45 [] []), .t 152, .t 153], (some (151, false))⟩,
   ⟨(some 155), .notB, [.t 154], (some (151, false))⟩,
   ⟨(some 156), .pick, [.t 151, .c (.b true), .t 155], none⟩] [0, 7, 8, 156])
 (.cond (.t 156)
  (.seq (.reg [⟨(some 6), .mv, [.c (.b false)], none⟩] [6])
  .ret)
  .skip))
 (.seq (.reg [⟨(some 158), .mv, [.t 0], none⟩,
   ⟨(some 159), .mv, [.t 7], none⟩,
   ⟨(some 160), .mv, [.t 8], none⟩,
   ⟨(some 161), (.call (.pu [])), [.c (.fn 43 [] []), .t 158, .t 159, .t 160], none⟩,
   ⟨(some 157), .mv, [.t 161], none⟩,
   ⟨(some 162), (.ext 0), [.t 157], none⟩,
   ⟨(some 163), (.ext 1), [.t 157], none⟩,
   ⟨(some 17), .mv, [.t 162], none⟩,
   ⟨(some 18), .mv, [.t 163], none⟩] [0, 7, 8, 17, 18])
 (.seq (.seq (.reg [⟨(some 19), .mv, [.c (.i .i64 0)], none⟩] [0, 7, 8, 17, 18, 19])
 (.block 2
  l15_3))
 (.seq (.reg [⟨(some 200), .mv, [.t 18], none⟩,
   ⟨(some 201), (.binI .eql), [.t 200, .c (.i .i64 0)], none⟩,
   ⟨(some 202), .mv, [.t 201], none⟩,
   ⟨(some 203), (.call (.pu [])), [.c (.fn 22 [] [])], (some (202, true))⟩,
   ⟨(some 204), .pick, [.t 202, .t 203, .c (.b false)], none⟩,
   ⟨(some 6), .mv, [.t 204], none⟩] [6])
 .ret)))))))))))))

def d15 : DFun := ⟨3, 205, c15, [.t 6]⟩

theorem ok15 : Fok Try.prog 15 d15 := ⟨Try.f15, Try.func15, by kernel_rfl, by kernel_rfl⟩

-- bibelot/bibelotlaw02.PegChecks
def c16 : DC :=
 (.seq (.reg [⟨(some 6), .mv, [.c (.b false)], none⟩] [0, 1, 2])
 (.seq (.reg [⟨(some 35), .mv, [.t 1], none⟩,
   ⟨(some 36), (.call (.pu [])), [.c (.fn 44 [] []), .t 35], none⟩,
   ⟨(some 7), .mv, [.t 36], none⟩] [0, 2, 7])
 (.seq (.reg [⟨(some 37), .mv, [.t 0], none⟩,
   ⟨(some 38), .mv, [.t 7], none⟩,
   ⟨(some 39), (.call (.pu [])), [.c (.fn 46 [] []), .t 37, .t 38], none⟩,
   ⟨(some 8), .mv, [.t 39], none⟩] [0, 2, 7, 8])
 (.seq (.seq (.reg [⟨(some 40), .mv, [.t 0], none⟩,
   ⟨(some 41), .mv, [.t 7], none⟩,
   ⟨(some 42), (.call (.pu [])), [.c (.fn 47 [] []), .t 40, .t 41], none⟩,
   ⟨(some 43), .mv, [.t 8], none⟩,
   ⟨(some 44), (.binI .neq), [.t 42, .t 43], none⟩] [0, 2, 7, 8, 44])
 (.cond (.t 44)
  (.seq (.reg [⟨(some 6), .mv, [.c (.b false)], none⟩] [6])
  .ret)
  .skip))
 (.seq (.seq (.reg [⟨(some 45), .mv, [.t 8], none⟩,
   ⟨(some 46), (.binI .eql), [.t 45, .c (.i .i64 0)], none⟩] [0, 2, 7, 8, 46])
 (.cond (.t 46)
  (.seq (.reg [⟨(some 47), (.call (.pu [])), [.c (.fn 22 [] [])], none⟩,
    ⟨(some 6), .mv, [.t 47], none⟩] [6])
  .ret)
  .skip))
 (.seq (.reg [⟨(some 49), .mv, [.t 0], none⟩,
   ⟨(some 50), .mv, [.t 7], none⟩,
   ⟨(some 51), .mv, [.t 2], none⟩,
   ⟨(some 52), (.call (.pu [])), [.c (.fn 43 [] []), .t 49, .t 50, .t 51], none⟩,
   ⟨(some 48), .mv, [.t 52], none⟩,
   ⟨(some 53), (.ext 0), [.t 48], none⟩,
   ⟨(some 54), (.ext 1), [.t 48], none⟩,
   ⟨(some 9), .mv, [.t 53], none⟩,
   ⟨(some 10), .mv, [.t 54], none⟩] [0, 2, 7, 8, 9, 10])
 (.seq (.reg [⟨(some 56), .mv, [.t 0], none⟩,
   ⟨(some 57), .mv, [.t 7], none⟩,
   ⟨(some 58), .mv, [.t 2], none⟩,
   ⟨(some 59), (.call (.pu [])), [.c (.fn 40 [] []), .t 56, .t 57, .t 58, .c .nilsl], none⟩,
   ⟨(some 55), .mv, [.t 59], none⟩,
   ⟨(some 60), (.ext 0), [.t 55], none⟩,
   ⟨(some 61), (.ext 1), [.t 55], none⟩,
   ⟨(some 11), .mv, [.t 60], none⟩,
   ⟨(some 12), .mv, [.t 61], none⟩] [0, 2, 7, 8, 9, 10, 11, 12])
 (.seq (.reg [⟨(some 63), .mv, [.t 0], none⟩,
   ⟨(some 64), .mv, [.t 7], none⟩,
   ⟨(some 65), .mv, [.t 2], none⟩,
   ⟨(some 66), .mv, [.t 2], none⟩,
   ⟨(some 67), (.call (.pu [])), [.c (.fn 20 [] []), .t 63, .t 64, .t 65, .t 66], none⟩,
   ⟨(some 62), .mv, [.t 67], none⟩,
   ⟨(some 68), (.ext 0), [.t 62], none⟩,
   ⟨(some 69), (.ext 1), [.t 62], none⟩,
   ⟨(some 70), (.ext 2), [.t 62], none⟩,
   ⟨(some 13), .mv, [.t 68], none⟩,
   ⟨(some 14), .mv, [.t 69], none⟩,
   ⟨(some 15), .mv, [.t 70], none⟩] [0, 2, 7, 8, 9, 10, 11, 12, 13, 14, 15])
 (.seq (.reg [⟨(some 72), .mv, [.t 0], none⟩,
   ⟨(some 73), .mv, [.t 7], none⟩,
   ⟨(some 74), .mv, [.t 2], none⟩,
   ⟨(some 75), (.call (.pu [])), [.c (.fn 24 [] []), .t 72, .t 73, .t 74], none⟩,
   ⟨(some 71), .mv, [.t 75], none⟩,
   ⟨(some 76), (.ext 0), [.t 71], none⟩,
   ⟨(some 77), (.ext 1), [.t 71], none⟩,
   ⟨(some 16), .mv, [.t 76], none⟩,
   ⟨(some 17), .mv, [.t 77], none⟩] [0, 2, 7, 8, 9, 10, 11, 12, 13, 14, 15, 16, 17])
 (.seq (.reg [⟨(some 79), .mv, [.t 0], none⟩,
   ⟨(some 80), .mv, [.t 7], none⟩,
   ⟨(some 81), .mv, [.t 2], none⟩,
   ⟨(some 82), (.call (.pu [])), [.c (.fn 25 [] []), .t 79, .t 80, .t 81], none⟩,
   ⟨(some 78), .mv, [.t 82], none⟩,
   ⟨(some 83), (.ext 0), [.t 78], none⟩,
   ⟨(some 84), (.ext 1), [.t 78], none⟩,
   ⟨(some 18), .mv, [.t 83], none⟩,
   ⟨(some 19), .mv, [.t 84], none⟩] [0, 2, 7, 8, 9, 10, 11, 12, 13, 14, 15, 16, 17, 18, 19])
 (.seq (.reg [⟨(some 86), .mv, [.t 0], none⟩,
   ⟨(some 87), .mv, [.t 7], none⟩,
   ⟨(some 88), (.call (.pu [])), [.c (.fn 27 [] []), .t 86, .t 87], none⟩,
   ⟨(some 85), .mv, [.t 88], none⟩,
   ⟨(some 89), (.ext 0), [.t 85], none⟩,
   ⟨(some 90), (.ext 1), [.t 85], none⟩,
   ⟨(some 20), .mv, [.t 89], none⟩,
   ⟨(some 21), .mv, [.t 90], none⟩] [0, 2, 7, 8, 9, 10, 11, 12, 13, 14, 15, 16, 17, 18, 19, 20, 21])
 (.seq (.reg [⟨(some 92), .mv, [.t 0], none⟩,
   ⟨(some 93), .mv, [.t 7], none⟩,
   ⟨(some 94), .mv, [.t 2], none⟩,
   ⟨(some 95), .mv, [.t 2], none⟩,
   ⟨(some 96), (.call (.pu [])), [.c (.fn 28 [] []), .t 92, .t 93, .t 94, .t 95], none⟩,
   ⟨(some 91), .mv, [.t 96], none⟩,
   ⟨(some 97), (.ext 0), [.t 91], none⟩,
   ⟨(some 98), (.ext 1), [.t 91], none⟩,
   ⟨(some 22), .mv, [.t 97], none⟩,
   ⟨(some 23), .mv, [.t 98], none⟩] [0, 2, 7, 8, 9, 10, 11, 12, 13, 14, 15, 16, 17, 18, 19, 20, 21, 22, 23])
 (.seq (.reg [⟨(some 100), .mv, [.t 0], none⟩,
   ⟨(some 101), .mv, [.t 7], none⟩,
   ⟨(some 102), (.call (.pu [])), [.c (.fn 31 [] []), .t 100, .t 101, .c .nilsl], none⟩,
   ⟨(some 99), .mv, [.t 102], none⟩,
   ⟨(some 103), (.ext 0), [.t 99], none⟩,
   ⟨(some 104), (.ext 1), [.t 99], none⟩,
   ⟨(some 24), .mv, [.t 103], none⟩,
   ⟨(some 25), .mv, [.t 104], none⟩] [0, 2, 7, 8, 9, 10, 11, 12, 13, 14, 15, 16, 17, 18, 19, 20, 21, 22, 23, 24, 25])
 (.seq (.reg [⟨(some 106), .mv, [.t 0], none⟩,
   ⟨(some 107), .mv, [.t 7], none⟩,
   ⟨(some 108), .mv, [.t 2], none⟩,
   ⟨(some 109), .mv, [.t 2], none⟩,
   ⟨(some 110), (.call (.pu [])), [.c (.fn 32 [] []), .t 106, .t 107, .t 108, .t 109, .c .nilsl], none⟩,
   ⟨(some 105), .mv, [.t 110], none⟩,
   ⟨(some 111), (.ext 0), [.t 105], none⟩,
   ⟨(some 112), (.ext 1), [.t 105], none⟩,
   ⟨(some 26), .mv, [.t 111], none⟩,
   ⟨(some 27), .mv, [.t 112], none⟩] [0, 2, 7, 8, 9, 10, 11, 12, 13, 14, 15, 16, 17, 18, 19, 20, 21, 22, 23, 24, 25, 26, 27])
 (.seq (.reg [⟨(some 114), .mv, [.t 0], none⟩,
   ⟨(some 115), .mv, [.t 7], none⟩,
   ⟨(some 116), .mv, [.t 2], none⟩,
   ⟨(some 117), .mv, [.t 2], none⟩,
   ⟨(some 118), (.call (.pu [])), [.c (.fn 41 [] []), .t 114, .t 115, .t 116, .t 117], none⟩,
   ⟨(some 113), .mv, [.t 118], none⟩,
   ⟨(some 119), (.ext 0), [.t 113], none⟩,
   ⟨(some 120), (.ext 1), [.t 113], none⟩,
   ⟨(some 121), (.ext 2), [.t 113], none⟩,
   ⟨(some 28), .mv, [.t 119], none⟩,
   ⟨(some 29), .mv, [.t 120], none⟩,
   ⟨(some 30), .mv, [.t 121], none⟩] [0, 2, 7, 8, 9, 10, 11, 12, 13, 14, 15, 16, 17, 18, 19, 20, 21, 22, 23, 24, 25, 26, 27, 28, 29, 30])
 (.seq (.reg [⟨(some 123), .mv, [.t 0], none⟩,
   ⟨(some 124), .mv, [.t 7], none⟩,
   ⟨(some 125), .mv, [.t 2], none⟩,
   ⟨(some 126), .mv, [.t 2], none⟩,
   ⟨(some 127), (.call (.pu [])), [.c (.fn 42 [] []), .t 123, .t 124, .t 125, .t 126], none⟩,
   ⟨(some 122), .mv, [.t 127], none⟩,
   ⟨(some 128), (.ext 0), [.t 122], none⟩,
   ⟨(some 129), (.ext 1), [.t 122], none⟩,
   ⟨(some 130), (.ext 2), [.t 122], none⟩,
   ⟨(some 131), (.ext 3), [.t 122], none⟩,
   ⟨(some 31), .mv, [.t 128], none⟩,
   ⟨(some 32), .mv, [.t 129], none⟩,
   ⟨(some 33), .mv, [.t 130], none⟩,
   ⟨(some 34), .mv, [.t 131], none⟩] [0, 7, 8, 9, 10, 11, 12, 13, 14, 15, 16, 17, 18, 19, 20, 21, 22, 23, 24, 25, 26, 27, 28, 29, 30, 31, 32, 33, 34])
 (.seq (.reg [⟨(some 132), .mv, [.t 10], none⟩,
   ⟨(some 133), .mv, [.t 8], none⟩,
   ⟨(some 134), (.binI .eql), [.t 132, .t 133], none⟩,
   ⟨(some 135), .mv, [.t 134], none⟩,
   ⟨(some 136), .mv, [.t 12], (some (135, true))⟩,
   ⟨(some 137), .mv, [.t 8], (some (135, true))⟩,
   ⟨(some 138), (.binI .eql), [.t 136, .t 137], (some (135, true))⟩,
   ⟨(some 139), .pick, [.t 135, .t 138, .c (.b false)], none⟩,
   ⟨(some 140), .mv, [.t 139], none⟩,
   ⟨(some 141), .mv, [.t 15], (some (140, true))⟩,
   ⟨(some 142), .mv, [.t 8], (some (140, true))⟩,
   ⟨(some 143), (.binI .eql), [.t 141, .t 142], (some (140, true))⟩,
   ⟨(some 144), .pick, [.t 140, .t 143, .c (.b false)], none⟩,
   ⟨(some 145), .mv, [.t 144], none⟩,
   ⟨(some 146), .mv, [.t 17], (some (145, true))⟩,
   ⟨(some 147), .mv, [.t 8], (some (145, true))⟩,
   ⟨(some 148), (.binI .eql), [.t 146, .t 147], (some (145, true))⟩,
   ⟨(some 149), .pick, [.t 145, .t 148, .c (.b false)], none⟩,
   ⟨(some 150), .mv, [.t 149], none⟩,
   ⟨(some 151), .mv, [.t 19], (some (150, true))⟩,
   ⟨(some 152), .mv, [.t 8], (some (150, true))⟩,
   ⟨(some 153), (.binI .eql), [.t 151, .t 152], (some (150, true))⟩,
   ⟨(some 154), .pick, [.t 150, .t 153, .c (.b false)], none⟩,
   ⟨(some 155), .mv, [.t 154], none⟩,
   ⟨(some 156), .mv, [.t 21], (some (155, true))⟩,
   ⟨(some 157), .mv, [.t 8], (some (155, true))⟩,
   ⟨(some 158), (.binI .eql), [.t 156, .t 157], (some (155, true))⟩,
   ⟨(some 159), .pick, [.t 155, .t 158, .c (.b false)], none⟩,
   ⟨(some 160), .mv, [.t 159], none⟩,
   ⟨(some 161), .mv, [.t 23], (some (160, true))⟩,
   ⟨(some 162), .mv, [.t 8], (some (160, true))⟩,
   ⟨(some 163), (.binI .eql), [.t 161, .t 162], (some (160, true))⟩,
   ⟨(some 164), .pick, [.t 160, .t 163, .c (.b false)], none⟩,
   ⟨(some 165), .mv, [.t 164], none⟩,
   ⟨(some 166), .mv, [.t 25], (some (165, true))⟩,
   ⟨(some 167), .mv, [.t 8], (some (165, true))⟩,
   ⟨(some 168), (.binI .eql), [.t 166, .t 167], (some (165, true))⟩,
   ⟨(some 169), .pick, [.t 165, .t 168, .c (.b false)], none⟩,
   ⟨(some 170), .mv, [.t 169], none⟩,
   ⟨(some 171), .mv, [.t 27], (some (170, true))⟩,
   ⟨(some 172), .mv, [.t 8], (some (170, true))⟩,
   ⟨(some 173), (.binI .eql), [.t 171, .t 172], (some (170, true))⟩,
   ⟨(some 174), .pick, [.t 170, .t 173, .c (.b false)], none⟩,
   ⟨(some 175), .mv, [.t 174], none⟩,
   ⟨(some 176), .mv, [.t 30], (some (175, true))⟩,
   ⟨(some 177), .mv, [.t 8], (some (175, true))⟩,
   ⟨(some 178), (.binI .eql), [.t 176, .t 177], (some (175, true))⟩,
   ⟨(some 179), .pick, [.t 175, .t 178, .c (.b false)], none⟩,
   ⟨(some 180), .mv, [.t 179], none⟩,
   ⟨(some 181), .mv, [.t 34], (some (180, true))⟩,
   ⟨(some 182), .mv, [.t 8], (some (180, true))⟩,
   ⟨(some 183), (.binI .eql), [.t 181, .t 182], (some (180, true))⟩,
   ⟨(some 184), .pick, [.t 180, .t 183, .c (.b false)], none⟩,
   ⟨(some 185), .mv, [.t 184], none⟩,
   ⟨(some 186), .mv, [.t 9], (some (185, true))⟩,
   ⟨(some 187), (.len 0), [.t 186], (some (185, true))⟩,
   ⟨(some 188), .mv, [.t 13], (some (185, true))⟩,
   ⟨(some 189), (.len 0), [.t 188], (some (185, true))⟩,
   ⟨(some 190), (.binI .add), [.t 187, .t 189], (some (185, true))⟩,
   ⟨(some 191), .mv, [.t 16], (some (185, true))⟩,
   ⟨(some 192), (.len 0), [.t 191], (some (185, true))⟩,
   ⟨(some 193), (.binI .add), [.t 190, .t 192], (some (185, true))⟩,
   ⟨(some 194), .mv, [.t 20], (some (185, true))⟩,
   ⟨(some 195), (.len 0), [.t 194], (some (185, true))⟩,
   ⟨(some 196), (.binI .add), [.t 193, .t 195], (some (185, true))⟩,
   ⟨(some 197), .mv, [.t 28], (some (185, true))⟩,
   ⟨(some 198), (.len 0), [.t 197], (some (185, true))⟩,
   ⟨(some 199), (.binI .add), [.t 196, .t 198], (some (185, true))⟩,
   ⟨(some 200), .mv, [.t 32], (some (185, true))⟩,
   ⟨(some 201), (.len 0), [.t 200], (some (185, true))⟩,
   ⟨(some 202), (.binI .add), [.t 199, .t 201], (some (185, true))⟩,
   ⟨(some 203), (.binI .eql), [.t 202, .c (.i .i64 0)], (some (185, true))⟩,
   ⟨(some 204), .pick, [.t 185, .t 203, .c (.b false)], none⟩,
   ⟨(some 205), .mv, [.t 204], none⟩,
   ⟨(some 206), .mv, [.t 11], (some (205, true))⟩,
   ⟨(some 207), .mv, [.t 18], (some (205, true))⟩,
   ⟨(some 208), (.binI .add), [.t 206, .t 207], (some (205, true))⟩,
   ⟨(some 209), .mv, [.t 31], (some (205, true))⟩,
   ⟨(some 210), (.binI .add), [.t 208, .t 209], (some (205, true))⟩,
   ⟨(some 211), (.binI .eql), [.t 210, .c (.i .i64 0)], (some (205, true))⟩,
   ⟨(some 212), .pick, [.t 205, .t 211, .c (.b false)], none⟩,
   ⟨(some 213), .mv, [.t 212], none⟩,
   ⟨(some 214), .mv, [.t 14], (some (213, true))⟩,
   ⟨(some 215), .notB, [.t 214], (some (213, true))⟩,
   ⟨(some 216), .pick, [.t 213, .t 215, .c (.b false)], none⟩,
   ⟨(some 217), .mv, [.t 216], none⟩,
   ⟨(some 218), .mv, [.t 22], (some (217, true))⟩,
   ⟨(some 219), .notB, [.t 218], (some (217, true))⟩,
   ⟨(some 220), .pick, [.t 217, .t 219, .c (.b false)], none⟩,
   ⟨(some 221), .mv, [.t 220], none⟩,
   ⟨(some 222), .mv, [.t 24], (some (221, true))⟩,
   ⟨(some 223), .notB, [.t 222], (some (221, true))⟩,
   ⟨(some 224), .pick, [.t 221, .t 223, .c (.b false)], none⟩,
   ⟨(some 225), .mv, [.t 224], none⟩,
   ⟨(some 226), .mv, [.t 26], (some (225, true))⟩,
   ⟨(some 227), .notB, [.t 226], (some (225, true))⟩,
   ⟨(some 228), .pick, [.t 225, .t 227, .c (.b false)], none⟩,
   ⟨(some 229), .mv, [.t 228], none⟩,
   ⟨(some 230), .mv, [.t 29], (some (229, true))⟩,
   ⟨(some 231), .notB, [.t 230], (some (229, true))⟩,
   ⟨(some 232), .pick, [.t 229, .t 231, .c (.b false)], none⟩,
   ⟨(some 233), .mv, [.t 232], none⟩,
   ⟨(some 234), .mv, [.t 33], (some (233, true))⟩,
   ⟨(some 235), .notB, [.t 234], (some (233, true))⟩,
   ⟨(some 236), .pick, [.t 233, .t 235, .c (.b false)], none⟩,
   ⟨(some 237), .mv, [.t 236], none⟩,
   ⟨(some 238), .mv, [.t 0], (some (237, true))⟩,
   ⟨(some 239), .mv, [.t 7], (some (237, true))⟩,
   ⟨(some 240), .mv, [.t 7], (some (237, true))⟩,
   ⟨(some 241), (.len 0), [.t 240], (some (237, true))⟩,
   ⟨(some 242), (.mksl [(.i .i64 0), (.i .i64 0)] true 16), [.t 241, .t 241], (some (237, true))⟩,
   ⟨(some 243), (.call (.pu [])), [.c (.fn 36 [] []), .t 238, .t 239, .c (.i .i64 0), .c (.i .i64 0), .c (.i .i64 1), .t 242], (some (237, true))⟩,
   ⟨(some 244), .notB, [.t 243], (some (237, true))⟩,
   ⟨(some 245), .pick, [.t 237, .t 244, .c (.b false)], none⟩,
   ⟨(some 246), .mv, [.t 245], none⟩,
   ⟨(some 247), (.call (.pu [])), [.c (.fn 22 [] [])], (some (246, true))⟩,
   ⟨(some 248), .pick, [.t 246, .t 247, .c (.b false)], none⟩,
   ⟨(some 6), .mv, [.t 248], none⟩] [6])
 .ret)))))))))))))))))

def d16 : DFun := ⟨3, 249, c16, [.t 6]⟩

theorem ok16 : Fok Try.prog 16 d16 := ⟨Try.f16, Try.func16, by kernel_rfl, by kernel_rfl⟩

-- bibelot/bibelotlaw02.PegPlaces
def c17 : DC :=
 (.seq (.reg [⟨(some 6), .mv, [.c (.b false)], none⟩] [0, 1, 2])
 (.seq (.reg [⟨(some 34), .mv, [.t 0], none⟩,
   ⟨(some 35), .mv, [.t 1], none⟩,
   ⟨(some 36), (.call (.pu [])), [.c (.fn 18 [] []), .t 34, .t 35, .c (.i .i64 16), .c (.i .i64 20)], none⟩,
   ⟨(some 33), .mv, [.t 36], none⟩,
   ⟨(some 37), (.ext 0), [.t 33], none⟩,
   ⟨(some 38), (.ext 1), [.t 33], none⟩,
   ⟨(some 0), .mv, [.t 37], none⟩,
   ⟨(some 7), .mv, [.t 38], none⟩] [0, 2, 7])
 (.seq (.seq (.reg [⟨(some 39), .mv, [.t 2], none⟩,
   ⟨(some 40), (.binI .geq), [.t 39, .c (.i .i64 0)], none⟩,
   ⟨(some 41), .mv, [.t 40], none⟩,
   ⟨(some 42), .mv, [.t 2], (some (41, true))⟩,
   ⟨(some 43), .mv, [.t 0], (some (41, true))⟩,
   ⟨(some 44), (.binI .shl), [.c (.i .i64 1), .t 43], (some (41, true))⟩,
   ⟨(some 45), (.binI .lss), [.t 42, .t 44], (some (41, true))⟩,
   ⟨(some 46), .pick, [.t 41, .t 45, .c (.b false)], none⟩] [0, 2, 7, 46])
 (.cond (.t 46)
  (.seq (.reg [⟨(some 47), (.call (.pu [])), [.c (.fn 22 [] [])], none⟩,
    ⟨(some 6), .mv, [.t 47], none⟩] [6])
  .ret)
  .skip))
 (.seq (.reg [⟨(some 49), .mv, [.t 0], none⟩,
   ⟨(some 50), .mv, [.t 7], none⟩,
   ⟨(some 51), .mv, [.t 2], none⟩,
   ⟨(some 52), (.call (.pu [])), [.c (.fn 43 [] []), .t 49, .t 50, .t 51], none⟩,
   ⟨(some 48), .mv, [.t 52], none⟩,
   ⟨(some 53), (.ext 0), [.t 48], none⟩,
   ⟨(some 54), (.ext 1), [.t 48], none⟩,
   ⟨(some 8), .mv, [.t 53], none⟩,
   ⟨(some 9), .mv, [.t 54], none⟩] [0, 2, 7, 8, 9])
 (.seq (.reg [⟨(some 56), .mv, [.t 0], none⟩,
   ⟨(some 57), .mv, [.t 7], none⟩,
   ⟨(some 58), .mv, [.t 2], none⟩,
   ⟨(some 59), (.call (.pu [])), [.c (.fn 40 [] []), .t 56, .t 57, .t 58, .c .nilsl], none⟩,
   ⟨(some 55), .mv, [.t 59], none⟩,
   ⟨(some 60), (.ext 0), [.t 55], none⟩,
   ⟨(some 61), (.ext 1), [.t 55], none⟩,
   ⟨(some 10), .mv, [.t 60], none⟩,
   ⟨(some 11), .mv, [.t 61], none⟩] [0, 2, 7, 8, 9, 11])
 (.seq (.reg [⟨(some 63), .mv, [.t 0], none⟩,
   ⟨(some 64), .mv, [.t 7], none⟩,
   ⟨(some 65), .mv, [.t 2], none⟩,
   ⟨(some 66), (.call (.pu [])), [.c (.fn 20 [] []), .t 63, .t 64, .c (.i .i64 0), .t 65], none⟩,
   ⟨(some 62), .mv, [.t 66], none⟩,
   ⟨(some 67), (.ext 0), [.t 62], none⟩,
   ⟨(some 68), (.ext 1), [.t 62], none⟩,
   ⟨(some 69), (.ext 2), [.t 62], none⟩,
   ⟨(some 12), .mv, [.t 67], none⟩,
   ⟨(some 13), .mv, [.t 68], none⟩,
   ⟨(some 14), .mv, [.t 69], none⟩] [0, 2, 7, 8, 9, 11, 14])
 (.seq (.reg [⟨(some 71), .mv, [.t 0], none⟩,
   ⟨(some 72), .mv, [.t 7], none⟩,
   ⟨(some 73), .mv, [.t 2], none⟩,
   ⟨(some 74), (.call (.pu [])), [.c (.fn 20 [] []), .t 71, .t 72, .t 73, .c (.i .i64 0)], none⟩,
   ⟨(some 70), .mv, [.t 74], none⟩,
   ⟨(some 75), (.ext 0), [.t 70], none⟩,
   ⟨(some 76), (.ext 1), [.t 70], none⟩,
   ⟨(some 77), (.ext 2), [.t 70], none⟩,
   ⟨(some 15), .mv, [.t 75], none⟩,
   ⟨(some 16), .mv, [.t 76], none⟩,
   ⟨(some 17), .mv, [.t 77], none⟩] [0, 2, 7, 8, 9, 11, 14, 17])
 (.seq (.reg [⟨(some 79), .mv, [.t 0], none⟩,
   ⟨(some 80), .mv, [.t 7], none⟩,
   ⟨(some 81), .mv, [.t 2], none⟩,
   ⟨(some 82), (.call (.pu [])), [.c (.fn 24 [] []), .t 79, .t 80, .t 81], none⟩,
   ⟨(some 78), .mv, [.t 82], none⟩,
   ⟨(some 83), (.ext 0), [.t 78], none⟩,
   ⟨(some 84), (.ext 1), [.t 78], none⟩,
   ⟨(some 18), .mv, [.t 83], none⟩,
   ⟨(some 19), .mv, [.t 84], none⟩] [0, 2, 7, 8, 9, 11, 14, 17, 19])
 (.seq (.reg [⟨(some 86), .mv, [.t 0], none⟩,
   ⟨(some 87), .mv, [.t 7], none⟩,
   ⟨(some 88), .mv, [.t 2], none⟩,
   ⟨(some 89), (.call (.pu [])), [.c (.fn 25 [] []), .t 86, .t 87, .t 88], none⟩,
   ⟨(some 85), .mv, [.t 89], none⟩,
   ⟨(some 90), (.ext 0), [.t 85], none⟩,
   ⟨(some 91), (.ext 1), [.t 85], none⟩,
   ⟨(some 20), .mv, [.t 90], none⟩,
   ⟨(some 21), .mv, [.t 91], none⟩] [0, 2, 7, 8, 9, 11, 14, 17, 19, 21])
 (.seq (.reg [⟨(some 93), .mv, [.t 0], none⟩,
   ⟨(some 94), .mv, [.t 7], none⟩,
   ⟨(some 95), .mv, [.t 2], none⟩,
   ⟨(some 96), (.call (.pu [])), [.c (.fn 28 [] []), .t 93, .t 94, .c (.i .i64 0), .t 95], none⟩,
   ⟨(some 92), .mv, [.t 96], none⟩,
   ⟨(some 97), (.ext 0), [.t 92], none⟩,
   ⟨(some 98), (.ext 1), [.t 92], none⟩,
   ⟨(some 22), .mv, [.t 97], none⟩,
   ⟨(some 23), .mv, [.t 98], none⟩] [0, 2, 7, 8, 9, 11, 14, 17, 19, 21, 23])
 (.seq (.reg [⟨(some 100), .mv, [.t 0], none⟩,
   ⟨(some 101), .mv, [.t 7], none⟩,
   ⟨(some 102), .mv, [.t 2], none⟩,
   ⟨(some 103), .mv, [.t 0], none⟩,
   ⟨(some 104), (.mksl [(.i .i64 0)] false 8), [.t 103, .t 103], none⟩,
   ⟨(some 105), (.call (.pu [])), [.c (.fn 32 [] []), .t 100, .t 101, .c (.i .i64 0), .t 102, .t 104], none⟩,
   ⟨(some 99), .mv, [.t 105], none⟩,
   ⟨(some 106), (.ext 0), [.t 99], none⟩,
   ⟨(some 107), (.ext 1), [.t 99], none⟩,
   ⟨(some 24), .mv, [.t 106], none⟩,
   ⟨(some 25), .mv, [.t 107], none⟩] [0, 2, 7, 8, 9, 11, 14, 17, 19, 21, 23, 25])
 (.seq (.reg [⟨(some 109), .mv, [.t 0], none⟩,
   ⟨(some 110), .mv, [.t 7], none⟩,
   ⟨(some 111), .mv, [.t 2], none⟩,
   ⟨(some 112), (.call (.pu [])), [.c (.fn 41 [] []), .t 109, .t 110, .t 111, .c (.i .i64 0)], none⟩,
   ⟨(some 108), .mv, [.t 112], none⟩,
   ⟨(some 113), (.ext 0), [.t 108], none⟩,
   ⟨(some 114), (.ext 1), [.t 108], none⟩,
   ⟨(some 115), (.ext 2), [.t 108], none⟩,
   ⟨(some 26), .mv, [.t 113], none⟩,
   ⟨(some 27), .mv, [.t 114], none⟩,
   ⟨(some 28), .mv, [.t 115], none⟩] [0, 2, 7, 8, 9, 11, 14, 17, 19, 21, 23, 25, 28])
 (.seq (.reg [⟨(some 117), .mv, [.t 0], none⟩,
   ⟨(some 118), .mv, [.t 7], none⟩,
   ⟨(some 119), .mv, [.t 2], none⟩,
   ⟨(some 120), (.call (.pu [])), [.c (.fn 42 [] []), .t 117, .t 118, .c (.i .i64 0), .t 119], none⟩,
   ⟨(some 116), .mv, [.t 120], none⟩,
   ⟨(some 121), (.ext 0), [.t 116], none⟩,
   ⟨(some 122), (.ext 1), [.t 116], none⟩,
   ⟨(some 123), (.ext 2), [.t 116], none⟩,
   ⟨(some 124), (.ext 3), [.t 116], none⟩,
   ⟨(some 29), .mv, [.t 121], none⟩,
   ⟨(some 30), .mv, [.t 122], none⟩,
   ⟨(some 31), .mv, [.t 123], none⟩,
   ⟨(some 32), .mv, [.t 124], none⟩] [0, 2, 7, 8, 9, 11, 14, 17, 19, 21, 23, 25, 28, 32])
 (.seq (.reg [⟨(some 125), .mv, [.t 9], none⟩,
   ⟨(some 126), (.binI .eql), [.t 125, .c (.i .i64 1)], none⟩,
   ⟨(some 127), .mv, [.t 126], none⟩,
   ⟨(some 128), .mv, [.t 11], (some (127, true))⟩,
   ⟨(some 129), (.binI .eql), [.t 128, .c (.i .i64 1)], (some (127, true))⟩,
   ⟨(some 130), .pick, [.t 127, .t 129, .c (.b false)], none⟩,
   ⟨(some 131), .mv, [.t 130], none⟩,
   ⟨(some 132), .mv, [.t 14], (some (131, true))⟩,
   ⟨(some 133), (.binI .eql), [.t 132, .c (.i .i64 1)], (some (131, true))⟩,
   ⟨(some 134), .pick, [.t 131, .t 133, .c (.b false)], none⟩,
   ⟨(some 135), .mv, [.t 134], none⟩,
   ⟨(some 136), .mv, [.t 17], (some (135, true))⟩,
   ⟨(some 137), (.binI .eql), [.t 136, .c (.i .i64 1)], (some (135, true))⟩,
   ⟨(some 138), .pick, [.t 135, .t 137, .c (.b false)], none⟩,
   ⟨(some 139), .mv, [.t 138], none⟩,
   ⟨(some 140), .mv, [.t 19], (some (139, true))⟩,
   ⟨(some 141), (.binI .eql), [.t 140, .c (.i .i64 1)], (some (139, true))⟩,
   ⟨(some 142), .pick, [.t 139, .t 141, .c (.b false)], none⟩,
   ⟨(some 143), .mv, [.t 142], none⟩,
   ⟨(some 144), .mv, [.t 21], (some (143, true))⟩,
   ⟨(some 145), (.binI .eql), [.t 144, .c (.i .i64 1)], (some (143, true))⟩,
   ⟨(some 146), .pick, [.t 143, .t 145, .c (.b false)], none⟩,
   ⟨(some 147), .mv, [.t 146], none⟩,
   ⟨(some 148), .mv, [.t 23], (some (147, true))⟩,
   ⟨(some 149), (.binI .eql), [.t 148, .c (.i .i64 1)], (some (147, true))⟩,
   ⟨(some 150), .pick, [.t 147, .t 149, .c (.b false)], none⟩,
   ⟨(some 151), .mv, [.t 150], none⟩,
   ⟨(some 152), .mv, [.t 25], (some (151, true))⟩,
   ⟨(some 153), (.binI .eql), [.t 152, .c (.i .i64 1)], (some (151, true))⟩,
   ⟨(some 154), .pick, [.t 151, .t 153, .c (.b false)], none⟩,
   ⟨(some 155), .mv, [.t 154], none⟩,
   ⟨(some 156), .mv, [.t 28], (some (155, true))⟩,
   ⟨(some 157), (.binI .eql), [.t 156, .c (.i .i64 1)], (some (155, true))⟩,
   ⟨(some 158), .pick, [.t 155, .t 157, .c (.b false)], none⟩,
   ⟨(some 159), .mv, [.t 158], none⟩,
   ⟨(some 160), .mv, [.t 32], (some (159, true))⟩,
   ⟨(some 161), (.binI .eql), [.t 160, .c (.i .i64 1)], (some (159, true))⟩,
   ⟨(some 162), .pick, [.t 159, .t 161, .c (.b false)], none⟩,
   ⟨(some 163), .mv, [.t 162], none⟩,
   ⟨(some 164), .mv, [.t 8], (some (163, true))⟩,
   ⟨(some 165), (.len 0), [.t 164], (some (163, true))⟩,
   ⟨(some 166), (.binI .eql), [.t 165, .c (.i .i64 0)], (some (163, true))⟩,
   ⟨(some 167), .pick, [.t 163, .t 166, .c (.b false)], none⟩,
   ⟨(some 168), .mv, [.t 167], none⟩,
   ⟨(some 169), .mv, [.t 0], (some (168, true))⟩,
   ⟨(some 170), .mv, [.t 7], (some (168, true))⟩,
   ⟨(some 171), .mv, [.t 2], (some (168, true))⟩,
   ⟨(some 172), .mv, [.t 2], (some (168, true))⟩,
   ⟨(some 173), .mv, [.t 7], (some (168, true))⟩,
   ⟨(some 174), (.len 0), [.t 173], (some (168, true))⟩,
   ⟨(some 175), (.mksl [(.i .i64 0), (.i .i64 0)] true 16), [.t 174, .t 174], (some (168, true))⟩,
   ⟨(some 176), (.call (.pu [])), [.c (.fn 36 [] []), .t 169, .t 170, .t 171, .t 172, .c (.i .i64 1), .t 175], (some (168, true))⟩,
   ⟨(some 177), .notB, [.t 176], (some (168, true))⟩,
   ⟨(some 178), .pick, [.t 168, .t 177, .c (.b false)], none⟩,
   ⟨(some 179), .mv, [.t 178], none⟩,
   ⟨(some 180), (.call (.pu [])), [.c (.fn 22 [] [])], (some (179, true))⟩,
   ⟨(some 181), .pick, [.t 179, .t 180, .c (.b false)], none⟩,
   ⟨(some 6), .mv, [.t 181], none⟩] [6])
 .ret))))))))))))))

def d17 : DFun := ⟨3, 182, c17, [.t 6]⟩

theorem ok17 : Fok Try.prog 17 d17 := ⟨Try.f17, Try.func17, by kernel_rfl, by kernel_rfl⟩

-- bibelot/bibelotlaw02.tame
def b18_0 : DC :=
 (.seq (.seq (.reg [⟨(some 35), .mv, [.t 13], none⟩,
   ⟨(some 36), (.binI .lss), [.t 35, .c (.i .i64 3)], none⟩] [0, 1, 3, 10, 11, 12, 13, 36])
 (.cond (.t 36)
  .skip
  (.exit 2)))
 (.seq (.block 3
  (.reg [⟨(some 39), .mv, [.t 13], none⟩,
    ⟨(some 40), .mv, [.t 1], none⟩,
    ⟨(some 41), .mv, [.t 11], none⟩,
    ⟨(some 42), .mv, [.t 13], none⟩,
    ⟨(some 43), (.ixS 3 true), [.t 40, .t 41], none⟩,
    ⟨(some 44), (.ixA 3 1 false), [.t 43, .t 42], none⟩,
    ⟨(some 45), (.ld 1 false), [.t 44], none⟩,
    ⟨(some 46), (.conv .u64), [.t 45], none⟩,
    ⟨(some 47), .mv, [.t 0], none⟩,
    ⟨(some 48), (.conv .u64), [.t 47], none⟩,
    ⟨(some 49), (.binI .rem), [.t 46, .t 48], none⟩,
    ⟨(some 50), (.conv .i64), [.t 49], none⟩,
    ⟨(some 51), (.ixA 3 1 false), [.t 12, .t 39], none⟩,
    ⟨none, (.st 1), [.t 51, .t 50], none⟩] [0, 1, 3, 10, 11, 12, 13]))
 (.reg [⟨(some 37), .mv, [.t 13], none⟩,
   ⟨(some 38), (.binI .add), [.t 37, .c (.i .i64 1)], none⟩,
   ⟨(some 13), .mv, [.t 38], none⟩] [0, 1, 3, 10, 11, 12, 13])))

def l18_1 : DC :=
 (.loop [0, 1, 3, 10, 11, 12, 13] b18_0)

def b18_2 : DC :=
 (.seq (.seq (.reg [⟨(some 64), .mv, [.t 14], none⟩,
   ⟨(some 65), .mv, [.t 10], none⟩,
   ⟨(some 66), (.len 0), [.t 65], none⟩,
   ⟨(some 67), (.binI .lss), [.t 64, .t 66], none⟩,
   ⟨(some 68), .mv, [.t 67], none⟩,
   ⟨(some 69), .mv, [.t 10], (some (68, true))⟩,
   ⟨(some 70), .mv, [.t 14], (some (68, true))⟩,
   ⟨(some 71), (.ixS 3 true), [.t 69, .t 70], (some (68, true))⟩,
   ⟨(some 72), (.ixA 3 1 false), [.t 71, .c (.i .i64 0)], (some (68, true))⟩,
   ⟨(some 73), (.ld 1 false), [.t 72], (some (68, true))⟩,
   ⟨(some 74), (.ixA 3 1 false), [.t 12, .c (.i .i64 0)], (some (68, true))⟩,
   ⟨(some 75), (.ld 1 false), [.t 74], (some (68, true))⟩,
   ⟨(some 76), (.binI .lss), [.t 73, .t 75], (some (68, true))⟩,
   ⟨(some 77), .mv, [.t 76], (some (68, true))⟩,
   ⟨(some 78), .mv, [.t 10], (some (77, false))⟩,
   ⟨(some 79), .mv, [.t 14], (some (77, false))⟩,
   ⟨(some 80), (.ixS 3 true), [.t 78, .t 79], (some (77, false))⟩,
   ⟨(some 81), (.ixA 3 1 false), [.t 80, .c (.i .i64 0)], (some (77, false))⟩,
   ⟨(some 82), (.ld 1 false), [.t 81], (some (77, false))⟩,
   ⟨(some 83), (.ixA 3 1 false), [.t 12, .c (.i .i64 0)], (some (77, false))⟩,
   ⟨(some 84), (.ld 1 false), [.t 83], (some (77, false))⟩,
   ⟨(some 85), (.binI .eql), [.t 82, .t 84], (some (77, false))⟩,
   ⟨(some 86), .mv, [.t 85], (some (77, false))⟩,
   ⟨(some 87), .mv, [.t 10], (some (86, true))⟩,
   ⟨(some 88), .mv, [.t 14], (some (86, true))⟩,
   ⟨(some 89), (.ixS 3 true), [.t 87, .t 88], (some (86, true))⟩,
   ⟨(some 90), (.ixA 3 1 false), [.t 89, .c (.i .i64 1)], (some (86, true))⟩,
   ⟨(some 91), (.ld 1 false), [.t 90], (some (86, true))⟩,
   ⟨(some 92), (.ixA 3 1 false), [.t 12, .c (.i .i64 1)], (some (86, true))⟩,
   ⟨(some 93), (.ld 1 false), [.t 92], (some (86, true))⟩,
   ⟨(some 94), (.binI .lss), [.t 91, .t 93], (some (86, true))⟩,
   ⟨(some 95), .mv, [.t 94], (some (86, true))⟩,
   ⟨(some 96), .mv, [.t 10], (some (95, false))⟩,
   ⟨(some 97), .mv, [.t 14], (some (95, false))⟩,
   ⟨(some 98), (.ixS 3 true), [.t 96, .t 97], (some (95, false))⟩,
   ⟨(some 99), (.ixA 3 1 false), [.t 98, .c (.i .i64 1)], (some (95, false))⟩,
   ⟨(some 100), (.ld 1 false), [.t 99], (some (95, false))⟩,
   ⟨(some 101), (.ixA 3 1 false), [.t 12, .c (.i .i64 1)], (some (95, false))⟩,
   ⟨(some 102), (.ld 1 false), [.t 101], (some (95, false))⟩,
   ⟨(some 103), (.binI .eql), [.t 100, .t 102], (some (95, false))⟩,
   ⟨(some 104), .mv, [.t 103], (some (95, false))⟩,
   ⟨(some 105), .mv, [.t 10], (some (104, true))⟩,
   ⟨(some 106), .mv, [.t 14], (some (104, true))⟩,
   ⟨(some 107), (.ixS 3 true), [.t 105, .t 106], (some (104, true))⟩,
   ⟨(some 108), (.ixA 3 1 false), [.t 107, .c (.i .i64 2)], (some (104, true))⟩,
   ⟨(some 109), (.ld 1 false), [.t 108], (some (104, true))⟩,
   ⟨(some 110), (.ixA 3 1 false), [.t 12, .c (.i .i64 2)], (some (104, true))⟩,
   ⟨(some 111), (.ld 1 false), [.t 110], (some (104, true))⟩,
   ⟨(some 112), (.binI .lss), [.t 109, .t 111], (some (104, true))⟩,
   ⟨(some 113), .pick, [.t 104, .t 112, .c (.b false)], (some (95, false))⟩,
   ⟨(some 114), .pick, [.t 95, .c (.b true), .t 113], (some (86, true))⟩,
   ⟨(some 115), .pick, [.t 86, .t 114, .c (.b false)], (some (77, false))⟩,
   ⟨(some 116), .pick, [.t 77, .c (.b true), .t 115], (some (68, true))⟩,
   ⟨(some 117), .pick, [.t 68, .t 116, .c (.b false)], none⟩] [0, 1, 3, 10, 11, 12, 14, 117])
 (.cond (.t 117)
  .skip
  (.exit 4)))
 (.block 5
  (.reg [⟨(some 118), .mv, [.t 14], none⟩,
    ⟨(some 119), (.binI .add), [.t 118, .c (.i .i64 1)], none⟩,
    ⟨(some 14), .mv, [.t 119], none⟩] [0, 1, 3, 10, 11, 12, 14])))

def l18_3 : DC :=
 (.loop [0, 1, 3, 10, 11, 12, 14] b18_2)

def b18_4 : DC :=
 (.seq (.seq (.reg [⟨(some 23), .mv, [.t 11], none⟩,
   ⟨(some 24), .mv, [.t 1], none⟩,
   ⟨(some 25), (.len 0), [.t 24], none⟩,
   ⟨(some 26), (.binI .lss), [.t 23, .t 25], none⟩,
   ⟨(some 27), .mv, [.t 26], none⟩,
   ⟨(some 28), .mv, [.t 10], (some (27, true))⟩,
   ⟨(some 29), (.len 0), [.t 28], (some (27, true))⟩,
   ⟨(some 30), .mv, [.t 3], (some (27, true))⟩,
   ⟨(some 31), (.binI .lss), [.t 29, .t 30], (some (27, true))⟩,
   ⟨(some 32), .pick, [.t 27, .t 31, .c (.b false)], none⟩] [0, 1, 3, 10, 11, 32])
 (.cond (.t 32)
  .skip
  (.exit 0)))
 (.seq (.block 1
  (.seq (.reg [⟨(some 12), (.alloc [(.i .i64 0), (.i .i64 0), (.i .i64 0)] true), [], none⟩] [0, 1, 3, 10, 11, 12])
  (.seq (.seq (.reg [⟨(some 13), .mv, [.c (.i .i64 0)], none⟩] [0, 1, 3, 10, 11, 12, 13])
  (.block 2
   l18_1))
  (.seq (.seq (.reg [⟨(some 52), (.ixA 3 1 false), [.t 12, .c (.i .i64 0)], none⟩,
    ⟨(some 53), (.ld 1 false), [.t 52], none⟩,
    ⟨(some 54), (.ixA 3 1 false), [.t 12, .c (.i .i64 2)], none⟩,
    ⟨(some 55), (.ld 1 false), [.t 54], none⟩,
    ⟨(some 56), (.binI .gtr), [.t 53, .t 55], none⟩] [0, 1, 3, 10, 11, 12, 56])
  (.cond (.t 56)
   (.reg [⟨(some 57), (.ixA 3 1 false), [.t 12, .c (.i .i64 2)], none⟩,
     ⟨(some 58), (.ld 1 false), [.t 57], none⟩,
     ⟨(some 59), (.ixA 3 1 false), [.t 12, .c (.i .i64 1)], none⟩,
     ⟨(some 60), (.ld 1 false), [.t 59], none⟩,
     ⟨(some 61), (.ixA 3 1 false), [.t 12, .c (.i .i64 0)], none⟩,
     ⟨(some 62), (.ld 1 false), [.t 61], none⟩,
     ⟨(some 63), (.build [(.i .i64 0), (.i .i64 0), (.i .i64 0)] [(0, 1), (1, 1), (2, 1)]), [.t 58, .t 60, .t 62], none⟩,
     ⟨none, (.st 3), [.t 12, .t 63], none⟩] [0, 1, 3, 10, 11, 12])
   .skip))
  (.seq (.reg [⟨(some 14), .mv, [.c (.i .i64 0)], none⟩] [0, 1, 3, 10, 11, 12, 14])
  (.seq (.block 4
   l18_3)
  (.seq (.reg [⟨(some 15), .mv, [.c .nilsl], none⟩] [0, 1, 3, 10, 11, 12, 14, 15])
  (.seq (.reg [⟨(some 120), .mv, [.t 15], none⟩,
    ⟨(some 121), .mv, [.t 10], none⟩,
    ⟨(some 122), .mv, [.t 14], none⟩,
    ⟨(some 123), (.slc false true false 3 true), [.t 121, .t 122], none⟩,
    ⟨(some 124), (.app 3 true 24), [.t 120, .t 123], none⟩,
    ⟨(some 15), .mv, [.t 124], none⟩] [0, 1, 3, 10, 11, 12, 14, 15])
  (.seq (.reg [⟨(some 125), .mv, [.t 15], none⟩,
    ⟨(some 126), (.ld 3 true), [.t 12], none⟩,
    ⟨(some 127), (.bsl false [(.i .i64 0), (.i .i64 0), (.i .i64 0)] true 1 [0]), [.t 126], none⟩,
    ⟨(some 128), (.app 3 true 24), [.t 125, .t 127], none⟩,
    ⟨(some 15), .mv, [.t 128], none⟩] [0, 1, 3, 10, 11, 14, 15])
  (.seq (.reg [⟨(some 129), .mv, [.t 15], none⟩,
    ⟨(some 130), .mv, [.t 10], none⟩,
    ⟨(some 131), .mv, [.t 14], none⟩,
    ⟨(some 132), (.slc true false false 3 true), [.t 130, .t 131], none⟩,
    ⟨(some 133), (.app 3 true 24), [.t 129, .t 132], none⟩,
    ⟨(some 15), .mv, [.t 133], none⟩] [0, 1, 3, 10, 11, 15])
  (.seq (.reg [⟨(some 134), .mv, [.t 0], none⟩,
    ⟨(some 135), .mv, [.t 15], none⟩,
    ⟨(some 136), (.call (.pu [])), [.c (.fn 46 [] []), .t 134, .t 135], none⟩,
    ⟨(some 137), (.binI .eql), [.t 136, .c (.i .i64 0)], none⟩] [0, 1, 3, 10, 11, 15, 137])
  (.cond (.t 137)
   (.reg [⟨(some 138), .mv, [.t 15], none⟩,
     ⟨(some 10), .mv, [.t 138], none⟩] [0, 1, 3, 10, 11])
   .skip))))))))))))
 (.reg [⟨(some 33), .mv, [.t 11], none⟩,
   ⟨(some 34), (.binI .add), [.t 33, .c (.i .i64 1)], none⟩,
   ⟨(some 11), .mv, [.t 34], none⟩] [0, 1, 3, 10, 11])))

def l18_5 : DC :=
 (.loop [0, 1, 3, 10, 11] b18_4)

def c18 : DC :=
 (.seq (.reg [⟨(some 8), .mv, [.c (.i .i64 0)], none⟩,
   ⟨(some 9), .mv, [.c .nilsl], none⟩] [0, 1, 2, 3])
 (.seq (.reg [⟨(some 16), .mv, [.t 0], none⟩,
   ⟨(some 17), (.conv .u64), [.t 16], none⟩,
   ⟨(some 18), .mv, [.t 2], none⟩,
   ⟨(some 19), (.conv .u64), [.t 18], none⟩,
   ⟨(some 20), (.binI .rem), [.t 17, .t 19], none⟩,
   ⟨(some 21), (.conv .i64), [.t 20], none⟩,
   ⟨(some 22), (.binI .add), [.c (.i .i64 1), .t 21], none⟩,
   ⟨(some 0), .mv, [.t 22], none⟩] [0, 1, 3])
 (.seq (.reg [⟨(some 10), .mv, [.c .nilsl], none⟩] [0, 1, 3, 10])
 (.seq (.seq (.reg [⟨(some 11), .mv, [.c (.i .i64 0)], none⟩] [0, 1, 3, 10, 11])
 (.block 0
  l18_5))
 (.seq (.reg [⟨(some 139), .mv, [.t 0], none⟩,
   ⟨(some 140), .mv, [.t 10], none⟩,
   ⟨(some 8), .mv, [.t 139], none⟩,
   ⟨(some 9), .mv, [.t 140], none⟩] [8, 9])
 .ret)))))

def d18 : DFun := ⟨4, 141, c18, [.t 8, .t 9]⟩

theorem ok18 : Fok Try.prog 18 d18 := ⟨Try.f18, Try.func18, by kernel_rfl, by kernel_rfl⟩

-- bibelot/bibelotref02.Reached
def b19_0 : DC :=
 (.seq (.seq (.reg [⟨(some 34), .mv, [.t 11], none⟩,
   ⟨(some 35), .mv, [.t 10], none⟩,
   ⟨(some 36), (.len 0), [.t 35], none⟩,
   ⟨(some 37), (.binI .lss), [.t 34, .t 36], none⟩] [1, 7, 8, 9, 10, 11, 37])
 (.cond (.t 37)
  .skip
  (.exit 2)))
 (.seq (.block 3
  (.seq (.reg [⟨(some 41), .mv, [.t 8], none⟩,
    ⟨(some 42), .mv, [.t 9], none⟩,
    ⟨(some 43), (.ixS 1 false), [.t 41, .t 42], none⟩,
    ⟨(some 44), (.ld 1 false), [.t 43], none⟩,
    ⟨(some 45), .mv, [.t 10], none⟩,
    ⟨(some 46), .mv, [.t 11], none⟩,
    ⟨(some 47), (.ixS 3 true), [.t 45, .t 46], none⟩,
    ⟨(some 48), (.ld 3 true), [.t 47], none⟩,
    ⟨(some 49), (.call (.pu [])), [.c (.fn 39 [] []), .t 44, .t 48], none⟩,
    ⟨(some 40), .mv, [.t 49], none⟩,
    ⟨(some 50), (.ext 0), [.t 40], none⟩,
    ⟨(some 51), (.ext 1), [.t 40], none⟩,
    ⟨(some 12), .mv, [.t 50], none⟩,
    ⟨(some 13), .mv, [.t 51], none⟩] [1, 7, 8, 9, 10, 11, 12])
  (.seq (.reg [⟨(some 52), .mv, [.t 7], none⟩,
    ⟨(some 53), .mv, [.t 12], none⟩,
    ⟨(some 54), (.ixS 1 false), [.t 52, .t 53], none⟩,
    ⟨(some 55), (.ld 1 false), [.t 54], none⟩,
    ⟨(some 56), .notB, [.t 55], none⟩] [1, 7, 8, 9, 10, 11, 12, 56])
  (.cond (.t 56)
   (.seq (.reg [⟨(some 57), .mv, [.t 7], none⟩,
     ⟨(some 58), .mv, [.t 12], none⟩,
     ⟨(some 59), (.ixS 1 false), [.t 57, .t 58], none⟩,
     ⟨none, (.st 1), [.t 59, .c (.b true)], none⟩] [1, 7, 8, 9, 10, 11, 12])
   (.reg [⟨(some 60), .mv, [.t 8], none⟩,
     ⟨(some 61), .mv, [.t 12], none⟩,
     ⟨(some 62), (.bsl false [(.i .i64 0)] false 1 [0]), [.t 61], none⟩,
     ⟨(some 63), (.app 1 false 8), [.t 60, .t 62], none⟩,
     ⟨(some 8), .mv, [.t 63], none⟩] [1, 7, 8, 9, 10, 11]))
   .skip))))
 (.reg [⟨(some 38), .mv, [.t 11], none⟩,
   ⟨(some 39), (.binI .add), [.t 38, .c (.i .i64 1)], none⟩,
   ⟨(some 11), .mv, [.t 39], none⟩] [1, 7, 8, 9, 10, 11])))

def l19_1 : DC :=
 (.loop [1, 7, 8, 9, 10, 11] b19_0)

def b19_2 : DC :=
 (.seq (.seq (.reg [⟨(some 22), .mv, [.t 9], none⟩,
   ⟨(some 23), .mv, [.t 8], none⟩,
   ⟨(some 24), (.len 0), [.t 23], none⟩,
   ⟨(some 25), (.binI .lss), [.t 22, .t 24], none⟩] [1, 7, 8, 9, 25])
 (.cond (.t 25)
  .skip
  (.exit 0)))
 (.seq (.block 1
  (.seq (.reg [⟨(some 28), .mv, [.t 1], none⟩,
    ⟨(some 29), .mv, [.t 8], none⟩,
    ⟨(some 30), .mv, [.t 9], none⟩,
    ⟨(some 31), (.ixS 1 false), [.t 29, .t 30], none⟩,
    ⟨(some 32), (.ld 1 false), [.t 31], none⟩,
    ⟨(some 33), (.call (.pu [])), [.c (.fn 38 [] []), .t 28, .t 32], none⟩,
    ⟨(some 10), .mv, [.t 33], none⟩] [1, 7, 8, 9, 10])
  (.seq (.reg [⟨(some 11), .mv, [.c (.i .i64 0)], none⟩] [1, 7, 8, 9, 10, 11])
  (.block 2
   l19_1))))
 (.reg [⟨(some 26), .mv, [.t 9], none⟩,
   ⟨(some 27), (.binI .add), [.t 26, .c (.i .i64 1)], none⟩,
   ⟨(some 9), .mv, [.t 27], none⟩] [1, 7, 8, 9])))

def l19_3 : DC :=
 (.loop [1, 7, 8, 9] b19_2)

def c19 : DC :=
 (.seq (.reg [⟨(some 6), .mv, [.c .nilsl], none⟩] [0, 1, 2])
 (.seq (.reg [⟨(some 14), .mv, [.t 0], none⟩,
   ⟨(some 15), (.binI .shl), [.c (.i .i64 1), .t 14], none⟩,
   ⟨(some 16), (.mksl [(.b false)] false 1), [.t 15, .t 15], none⟩,
   ⟨(some 7), .mv, [.t 16], none⟩] [1, 2, 7])
 (.seq (.reg [⟨(some 17), .mv, [.t 7], none⟩,
   ⟨(some 18), .mv, [.t 2], none⟩,
   ⟨(some 19), (.ixS 1 false), [.t 17, .t 18], none⟩,
   ⟨none, (.st 1), [.t 19, .c (.b true)], none⟩] [1, 2, 7])
 (.seq (.reg [⟨(some 20), .mv, [.t 2], none⟩,
   ⟨(some 21), (.bsl false [(.i .i64 0)] false 1 [0]), [.t 20], none⟩,
   ⟨(some 8), .mv, [.t 21], none⟩] [1, 7, 8])
 (.seq (.seq (.reg [⟨(some 9), .mv, [.c (.i .i64 0)], none⟩] [1, 7, 8, 9])
 (.block 0
  l19_3))
 (.seq (.reg [⟨(some 64), .mv, [.t 7], none⟩,
   ⟨(some 6), .mv, [.t 64], none⟩] [6])
 .ret))))))

def d19 : DFun := ⟨3, 65, c19, [.t 6]⟩

theorem ok19 : Fok Try.prog 19 d19 := ⟨Try.f19, Try.func19, by kernel_rfl, by kernel_rfl⟩

-- bibelot/peg.Solve
def b20_0 : DC :=
 (.seq (.seq (.reg [⟨(some 36), .mv, [.t 3], none⟩,
   ⟨(some 37), .mv, [.t 2], none⟩,
   ⟨(some 38), (.binI .neq), [.t 36, .t 37], none⟩] [2, 3, 13, 14, 38])
 (.cond (.t 38)
  .skip
  (.exit 0)))
 (.block 1
  (.seq (.reg [⟨(some 39), .mv, [.t 14], none⟩,
    ⟨(some 40), .mv, [.t 13], none⟩,
    ⟨(some 41), .mv, [.t 3], none⟩,
    ⟨(some 42), (.lkp .int (.agg [(.i .i64 0), (.i .i64 0), (.i .i64 0), (.i .i64 0)]) false), [.t 40, .t 41], none⟩,
    ⟨(some 43), (.fld 1 3 true), [.t 42], none⟩,
    ⟨(some 44), (.call (.pu [])), [.c (.fn 50 [] []), .t 43], none⟩,
    ⟨(some 45), (.bsl false [(.i .i64 0), (.i .i64 0), (.i .i64 0)] true 1 [0]), [.t 44], none⟩,
    ⟨(some 46), (.app 3 true 24), [.t 39, .t 45], none⟩,
    ⟨(some 14), .mv, [.t 46], none⟩] [2, 3, 13, 14])
  (.reg [⟨(some 47), .mv, [.t 13], none⟩,
    ⟨(some 48), .mv, [.t 3], none⟩,
    ⟨(some 49), (.lkp .int (.agg [(.i .i64 0), (.i .i64 0), (.i .i64 0), (.i .i64 0)]) false), [.t 47, .t 48], none⟩,
    ⟨(some 50), (.fld 0 1 false), [.t 49], none⟩,
    ⟨(some 3), .mv, [.t 50], none⟩] [2, 3, 13, 14]))))

def l20_1 : DC :=
 (.loop [2, 3, 13, 14] b20_0)

def c20 : DC :=
 (.seq (.reg [⟨(some 8), .mv, [.c .nilsl], none⟩,
   ⟨(some 9), .mv, [.c (.b false)], none⟩,
   ⟨(some 10), .mv, [.c (.i .i64 0)], none⟩] [0, 1, 2, 3])
 (.seq (.seq (.reg [⟨(some 15), .mv, [.t 0], none⟩,
   ⟨(some 16), .mv, [.t 1], none⟩,
   ⟨(some 17), .mv, [.t 2], none⟩,
   ⟨(some 18), .mv, [.t 3], none⟩,
   ⟨(some 19), (.bsl false [(.i .i64 0)] false 2 [0, 1]), [.t 17, .t 18], none⟩,
   ⟨(some 20), (.call (.pu [])), [.c (.fn 48 [] []), .t 15, .t 16, .t 19], none⟩,
   ⟨(some 11), .mv, [.t 20], none⟩] [1, 2, 3, 11])
 (.seq (.reg [⟨(some 21), .mv, [.t 11], none⟩,
   ⟨(some 22), (.binI .neq), [.t 21, .c (.i .i64 0)], none⟩] [1, 2, 3, 11, 22])
 (.cond (.t 22)
  (.seq (.reg [⟨(some 23), .mv, [.t 11], none⟩,
    ⟨(some 8), .mv, [.c .nilsl], none⟩,
    ⟨(some 9), .mv, [.c (.b false)], none⟩,
    ⟨(some 10), .mv, [.t 23], none⟩] [8, 9, 10])
  .ret)
  .skip)))
 (.seq (.reg [⟨(some 25), .mv, [.t 1], none⟩,
   ⟨(some 26), .mv, [.t 2], none⟩,
   ⟨(some 27), (.call .sh), [.c (.fn 49 [] []), .t 25, .t 26], none⟩,
   ⟨(some 24), .mv, [.t 27], none⟩,
   ⟨(some 28), (.ext 0), [.t 24], none⟩,
   ⟨(some 29), (.ext 1), [.t 24], none⟩,
   ⟨(some 12), .mv, [.t 28], none⟩,
   ⟨(some 13), .mv, [.t 29], none⟩] [2, 3, 12, 13])
 (.seq (.seq (.reg [⟨(some 30), .mv, [.t 12], none⟩,
   ⟨(some 31), .mv, [.t 3], none⟩,
   ⟨(some 32), .nilck, [.t 30], none⟩,
   ⟨(some 33), (.ixA 65536 1 false), [.t 32, .t 31], none⟩,
   ⟨(some 34), (.ld 1 false), [.t 33], none⟩,
   ⟨(some 35), .notB, [.t 34], none⟩] [2, 3, 13, 35])
 (.cond (.t 35)
  (.seq (.reg [⟨(some 8), .mv, [.c .nilsl], none⟩,
    ⟨(some 9), .mv, [.c (.b false)], none⟩,
    ⟨(some 10), .mv, [.c (.i .i64 0)], none⟩] [8, 9, 10])
  .ret)
  .skip))
 (.seq (.reg [⟨(some 14), .mv, [.c .nilsl], none⟩] [2, 3, 13, 14])
 (.seq (.block 0
  l20_1)
 (.seq (.reg [⟨(some 51), .mv, [.t 14], none⟩,
   ⟨(some 52), (.call .sh), [.c (.fn 51 [] []), .t 51], none⟩] [14])
 (.seq (.reg [⟨(some 53), .mv, [.t 14], none⟩,
   ⟨(some 8), .mv, [.t 53], none⟩,
   ⟨(some 9), .mv, [.c (.b true)], none⟩,
   ⟨(some 10), .mv, [.c (.i .i64 0)], none⟩] [8, 9, 10])
 .ret))))))))

def d20 : DFun := ⟨4, 54, c20, [.t 8, .t 9, .t 10]⟩

theorem ok20 : Fok Try.prog 20 d20 := ⟨Try.f20, Try.func20, by kernel_rfl, by kernel_rfl⟩

-- bibelot/bibelotref02.Play
def b21_0 : DC :=
 (.seq (.seq (.reg [⟨(some 11), .mv, [.t 8], none⟩,
   ⟨(some 12), .mv, [.t 2], none⟩,
   ⟨(some 13), (.len 0), [.t 12], none⟩,
   ⟨(some 14), (.binI .lss), [.t 11, .t 13], none⟩] [0, 1, 2, 8, 14])
 (.cond (.t 14)
  .skip
  (.exit 0)))
 (.seq (.block 1
  (.seq (.seq (.reg [⟨(some 17), .mv, [.t 0], none⟩,
    ⟨(some 18), .mv, [.t 2], none⟩,
    ⟨(some 19), .mv, [.t 8], none⟩,
    ⟨(some 20), (.ixS 3 true), [.t 18, .t 19], none⟩,
    ⟨(some 21), (.ld 3 true), [.t 20], none⟩,
    ⟨(some 22), (.call (.pu [])), [.c (.fn 52 [] []), .t 17, .t 21], none⟩,
    ⟨(some 23), .notB, [.t 22], none⟩] [0, 1, 2, 8, 23])
  (.cond (.t 23)
   (.seq (.reg [⟨(some 24), .mv, [.t 1], none⟩,
     ⟨(some 6), .mv, [.t 24], none⟩,
     ⟨(some 7), .mv, [.c (.b false)], none⟩] [6, 7])
   .ret)
   .skip))
  (.seq (.reg [⟨(some 26), .mv, [.t 1], none⟩,
    ⟨(some 27), .mv, [.t 2], none⟩,
    ⟨(some 28), .mv, [.t 8], none⟩,
    ⟨(some 29), (.ixS 3 true), [.t 27, .t 28], none⟩,
    ⟨(some 30), (.ld 3 true), [.t 29], none⟩,
    ⟨(some 31), (.call (.pu [])), [.c (.fn 39 [] []), .t 26, .t 30], none⟩,
    ⟨(some 25), .mv, [.t 31], none⟩,
    ⟨(some 32), (.ext 0), [.t 25], none⟩,
    ⟨(some 33), (.ext 1), [.t 25], none⟩,
    ⟨(some 9), .mv, [.t 32], none⟩,
    ⟨(some 10), .mv, [.t 33], none⟩] [0, 1, 2, 8, 9, 10])
  (.seq (.seq (.reg [⟨(some 34), .mv, [.t 10], none⟩,
    ⟨(some 35), .notB, [.t 34], none⟩] [0, 1, 2, 8, 9, 35])
  (.cond (.t 35)
   (.seq (.reg [⟨(some 36), .mv, [.t 1], none⟩,
     ⟨(some 6), .mv, [.t 36], none⟩,
     ⟨(some 7), .mv, [.c (.b false)], none⟩] [6, 7])
   .ret)
   .skip))
  (.reg [⟨(some 37), .mv, [.t 9], none⟩,
    ⟨(some 1), .mv, [.t 37], none⟩] [0, 1, 2, 8])))))
 (.reg [⟨(some 15), .mv, [.t 8], none⟩,
   ⟨(some 16), (.binI .add), [.t 15, .c (.i .i64 1)], none⟩,
   ⟨(some 8), .mv, [.t 16], none⟩] [0, 1, 2, 8])))

def l21_1 : DC :=
 (.loop [0, 1, 2, 8] b21_0)

def c21 : DC :=
 (.seq (.reg [⟨(some 6), .mv, [.c (.i .i64 0)], none⟩,
   ⟨(some 7), .mv, [.c (.b false)], none⟩] [0, 1, 2])
 (.seq (.seq (.reg [⟨(some 8), .mv, [.c (.i .i64 0)], none⟩] [0, 1, 2, 8])
 (.block 0
  l21_1))
 (.seq (.reg [⟨(some 38), .mv, [.t 1], none⟩,
   ⟨(some 6), .mv, [.t 38], none⟩,
   ⟨(some 7), .mv, [.c (.b true)], none⟩] [6, 7])
 .ret)))

def d21 : DFun := ⟨3, 39, c21, [.t 6, .t 7]⟩

theorem ok21 : Fok Try.prog 21 d21 := ⟨Try.f21, Try.func21, by kernel_rfl, by kernel_rfl⟩

-- bibelot/bibelotlaw02.awake
def c22 : DC :=
 (.seq (.reg [⟨(some 0), .mv, [.c (.b false)], none⟩] [])
 (.seq (.reg [⟨(some 15), (.build [(.i .i64 0), (.i .i64 0), (.i .i64 0)] [(0, 1), (1, 1), (2, 1)]), [.c (.i .i64 0), .c (.i .i64 1), .c (.i .i64 2)], none⟩,
   ⟨(some 16), (.build [(.i .i64 0), (.i .i64 0), (.i .i64 0)] [(0, 1), (1, 1), (2, 1)]), [.c (.i .i64 1), .c (.i .i64 2), .c (.i .i64 3)], none⟩,
   ⟨(some 17), (.bsl false [(.i .i64 0), (.i .i64 0), (.i .i64 0)] true 2 [0, 1]), [.t 15, .t 16], none⟩,
   ⟨(some 1), .mv, [.t 17], none⟩] [1])
 (.seq (.reg [⟨(some 19), (.build [(.i .i64 0), (.i .i64 0), (.i .i64 0)] [(0, 1), (1, 1), (2, 1)]), [.c (.i .i64 0), .c (.i .i64 1), .c (.i .i64 2)], none⟩,
   ⟨(some 20), (.bsl false [(.i .i64 0), (.i .i64 0), (.i .i64 0)] true 1 [0]), [.t 19], none⟩,
   ⟨(some 21), (.call (.pu [])), [.c (.fn 20 [] []), .c (.i .i64 3), .t 20, .c (.i .i64 3), .c (.i .i64 4)], none⟩,
   ⟨(some 18), .mv, [.t 21], none⟩,
   ⟨(some 22), (.ext 0), [.t 18], none⟩,
   ⟨(some 23), (.ext 1), [.t 18], none⟩,
   ⟨(some 24), (.ext 2), [.t 18], none⟩,
   ⟨(some 2), .mv, [.t 22], none⟩,
   ⟨(some 3), .mv, [.t 23], none⟩,
   ⟨(some 4), .mv, [.t 24], none⟩] [1, 2, 3, 4])
 (.seq (.reg [⟨(some 26), .mv, [.t 1], none⟩,
   ⟨(some 27), (.call (.pu [])), [.c (.fn 27 [] []), .c (.i .i64 4), .t 26], none⟩,
   ⟨(some 25), .mv, [.t 27], none⟩,
   ⟨(some 28), (.ext 0), [.t 25], none⟩,
   ⟨(some 29), (.ext 1), [.t 25], none⟩,
   ⟨(some 5), .mv, [.t 28], none⟩,
   ⟨(some 6), .mv, [.t 29], none⟩] [1, 2, 3, 4, 5, 6])
 (.seq (.reg [⟨(some 31), .mv, [.t 1], none⟩,
   ⟨(some 32), (.call (.pu [])), [.c (.fn 28 [] []), .c (.i .i64 4), .t 31, .c (.i .i64 3), .c (.i .i64 8)], none⟩,
   ⟨(some 30), .mv, [.t 32], none⟩,
   ⟨(some 33), (.ext 0), [.t 30], none⟩,
   ⟨(some 34), (.ext 1), [.t 30], none⟩,
   ⟨(some 7), .mv, [.t 33], none⟩,
   ⟨(some 8), .mv, [.t 34], none⟩] [1, 2, 3, 4, 5, 6, 7, 8])
 (.seq (.reg [⟨(some 36), .mv, [.t 1], none⟩,
   ⟨(some 37), (.bsl false [(.i .i64 0)] false 4 [0, 1, 2, 3]), [.c (.i .i64 1), .c (.i .i64 0), .c (.i .i64 1), .c (.i .i64 1)], none⟩,
   ⟨(some 38), (.call (.pu [])), [.c (.fn 31 [] []), .c (.i .i64 4), .t 36, .t 37], none⟩,
   ⟨(some 35), .mv, [.t 38], none⟩,
   ⟨(some 39), (.ext 0), [.t 35], none⟩,
   ⟨(some 40), (.ext 1), [.t 35], none⟩,
   ⟨(some 9), .mv, [.t 39], none⟩,
   ⟨(some 10), .mv, [.t 40], none⟩] [1, 2, 3, 4, 5, 6, 7, 8, 9, 10])
 (.seq (.reg [⟨(some 42), .mv, [.t 1], none⟩,
   ⟨(some 43), (.bsl false [(.i .i64 0)] false 4 [0, 1, 2, 3]), [.c (.i .i64 1), .c (.i .i64 1), .c (.i .i64 3), .c (.i .i64 1)], none⟩,
   ⟨(some 44), (.call (.pu [])), [.c (.fn 31 [] []), .c (.i .i64 4), .t 42, .t 43], none⟩,
   ⟨(some 41), .mv, [.t 44], none⟩,
   ⟨(some 45), (.ext 0), [.t 41], none⟩,
   ⟨(some 46), (.ext 1), [.t 41], none⟩,
   ⟨(some 11), .mv, [.t 45], none⟩,
   ⟨(some 12), .mv, [.t 46], none⟩] [2, 3, 4, 5, 6, 7, 8, 9, 10, 11, 12])
 (.seq (.reg [⟨(some 48), (.build [(.i .i64 0), (.i .i64 0), (.i .i64 0)] [(0, 1), (1, 1), (2, 1)]), [.c (.i .i64 0), .c (.i .i64 1), .c (.i .i64 2)], none⟩,
   ⟨(some 49), (.bsl false [(.i .i64 0), (.i .i64 0), (.i .i64 0)] true 1 [0]), [.t 48], none⟩,
   ⟨(some 50), (.call (.pu [])), [.c (.fn 25 [] []), .c (.i .i64 3), .t 49, .c (.i .i64 3)], none⟩,
   ⟨(some 47), .mv, [.t 50], none⟩,
   ⟨(some 51), (.ext 0), [.t 47], none⟩,
   ⟨(some 52), (.ext 1), [.t 47], none⟩,
   ⟨(some 13), .mv, [.t 51], none⟩,
   ⟨(some 14), .mv, [.t 52], none⟩] [2, 3, 4, 5, 6, 7, 8, 9, 10, 11, 12, 13, 14])
 (.seq (.reg [⟨(some 53), .mv, [.t 4], none⟩,
   ⟨(some 54), (.binI .eql), [.t 53, .c (.i .i64 0)], none⟩,
   ⟨(some 55), .mv, [.t 54], none⟩,
   ⟨(some 56), .mv, [.t 3], (some (55, true))⟩,
   ⟨(some 57), .pick, [.t 55, .t 56, .c (.b false)], none⟩,
   ⟨(some 58), .mv, [.t 57], none⟩,
   ⟨(some 59), .mv, [.t 2], (some (58, true))⟩,
   ⟨(some 60), (.len 0), [.t 59], (some (58, true))⟩,
   ⟨(some 61), (.binI .eql), [.t 60, .c (.i .i64 1)], (some (58, true))⟩,
   ⟨(some 62), .pick, [.t 58, .t 61, .c (.b false)], none⟩,
   ⟨(some 63), .mv, [.t 62], none⟩,
   ⟨(some 64), .mv, [.t 2], (some (63, true))⟩,
   ⟨(some 65), (.ixS 3 true), [.t 64, .c (.i .i64 0)], (some (63, true))⟩,
   ⟨(some 66), (.ld 3 true), [.t 65], (some (63, true))⟩,
   ⟨(some 67), (.build [(.i .i64 0), (.i .i64 0), (.i .i64 0)] [(0, 1), (1, 1), (2, 1)]), [.c (.i .i64 0), .c (.i .i64 1), .c (.i .i64 2)], (some (63, true))⟩,
   ⟨(some 68), (.eqA false [true, true, true]), [.t 66, .t 67], (some (63, true))⟩,
   ⟨(some 69), .pick, [.t 63, .t 68, .c (.b false)], none⟩,
   ⟨(some 70), .mv, [.t 69], none⟩,
   ⟨(some 71), .mv, [.t 6], (some (70, true))⟩,
   ⟨(some 72), (.binI .eql), [.t 71, .c (.i .i64 0)], (some (70, true))⟩,
   ⟨(some 73), .pick, [.t 70, .t 72, .c (.b false)], none⟩,
   ⟨(some 74), .mv, [.t 73], none⟩,
   ⟨(some 75), .mv, [.t 5], (some (74, true))⟩,
   ⟨(some 76), (.len 0), [.t 75], (some (74, true))⟩,
   ⟨(some 77), (.binI .eql), [.t 76, .c (.i .i64 2)], (some (74, true))⟩,
   ⟨(some 78), .pick, [.t 74, .t 77, .c (.b false)], none⟩,
   ⟨(some 79), .mv, [.t 78], none⟩,
   ⟨(some 80), .mv, [.t 5], (some (79, true))⟩,
   ⟨(some 81), (.ixS 1 false), [.t 80, .c (.i .i64 0)], (some (79, true))⟩,
   ⟨(some 82), (.ld 1 false), [.t 81], (some (79, true))⟩,
   ⟨(some 83), (.binI .eql), [.t 82, .c (.i .i64 6)], (some (79, true))⟩,
   ⟨(some 84), .pick, [.t 79, .t 83, .c (.b false)], none⟩,
   ⟨(some 85), .mv, [.t 84], none⟩,
   ⟨(some 86), .mv, [.t 5], (some (85, true))⟩,
   ⟨(some 87), (.ixS 1 false), [.t 86, .c (.i .i64 1)], (some (85, true))⟩,
   ⟨(some 88), (.ld 1 false), [.t 87], (some (85, true))⟩,
   ⟨(some 89), (.binI .eql), [.t 88, .c (.i .i64 11)], (some (85, true))⟩,
   ⟨(some 90), .pick, [.t 85, .t 89, .c (.b false)], none⟩,
   ⟨(some 91), .mv, [.t 90], none⟩,
   ⟨(some 92), .mv, [.t 8], (some (91, true))⟩,
   ⟨(some 93), (.binI .eql), [.t 92, .c (.i .i64 0)], (some (91, true))⟩,
   ⟨(some 94), .pick, [.t 91, .t 93, .c (.b false)], none⟩,
   ⟨(some 95), .mv, [.t 94], none⟩,
   ⟨(some 96), .mv, [.t 7], (some (95, true))⟩,
   ⟨(some 97), .notB, [.t 96], (some (95, true))⟩,
   ⟨(some 98), .pick, [.t 95, .t 97, .c (.b false)], none⟩,
   ⟨(some 99), .mv, [.t 98], none⟩,
   ⟨(some 100), .mv, [.t 10], (some (99, true))⟩,
   ⟨(some 101), (.binI .eql), [.t 100, .c (.i .i64 0)], (some (99, true))⟩,
   ⟨(some 102), .pick, [.t 99, .t 101, .c (.b false)], none⟩,
   ⟨(some 103), .mv, [.t 102], none⟩,
   ⟨(some 104), .mv, [.t 9], (some (103, true))⟩,
   ⟨(some 105), .pick, [.t 103, .t 104, .c (.b false)], none⟩,
   ⟨(some 106), .mv, [.t 105], none⟩,
   ⟨(some 107), .mv, [.t 12], (some (106, true))⟩,
   ⟨(some 108), (.binI .eql), [.t 107, .c (.i .i64 0)], (some (106, true))⟩,
   ⟨(some 109), .pick, [.t 106, .t 108, .c (.b false)], none⟩,
   ⟨(some 110), .mv, [.t 109], none⟩,
   ⟨(some 111), .mv, [.t 11], (some (110, true))⟩,
   ⟨(some 112), .notB, [.t 111], (some (110, true))⟩,
   ⟨(some 113), .pick, [.t 110, .t 112, .c (.b false)], none⟩,
   ⟨(some 114), .mv, [.t 113], none⟩,
   ⟨(some 115), .mv, [.t 14], (some (114, true))⟩,
   ⟨(some 116), (.binI .eql), [.t 115, .c (.i .i64 0)], (some (114, true))⟩,
   ⟨(some 117), .pick, [.t 114, .t 116, .c (.b false)], none⟩,
   ⟨(some 118), .mv, [.t 117], none⟩,
   ⟨(some 119), .mv, [.t 13], (some (118, true))⟩,
   ⟨(some 120), (.binI .eql), [.t 119, .c (.i .i64 1)], (some (118, true))⟩,
   ⟨(some 121), .pick, [.t 118, .t 120, .c (.b false)], none⟩,
   ⟨(some 122), .mv, [.t 121], none⟩,
   ⟨(some 123), (.call (.pu [])), [.c (.fn 47 [] []), .c (.i .i64 0), .c .nilsl], (some (122, true))⟩,
   ⟨(some 124), (.binI .eql), [.t 123, .c (.i .i64 1)], (some (122, true))⟩,
   ⟨(some 125), .pick, [.t 122, .t 124, .c (.b false)], none⟩,
   ⟨(some 0), .mv, [.t 125], none⟩] [0])
 .ret)))))))))

def d22 : DFun := ⟨0, 126, c22, [.t 0]⟩

theorem ok22 : Fok Try.prog 22 d22 := ⟨Try.f22, Try.func22, by kernel_rfl, by kernel_rfl⟩

-- bibelot/bibelotref02.Size
def b23_0 : DC :=
 (.seq (.seq (.reg [⟨(some 5), .mv, [.t 0], none⟩,
   ⟨(some 6), .mv, [.t 4], none⟩,
   ⟨(some 7), (.binI .shr), [.t 5, .t 6], none⟩,
   ⟨(some 8), (.binI .gtr), [.t 7, .c (.i .i64 0)], none⟩] [0, 3, 4, 8])
 (.cond (.t 8)
  .skip
  (.exit 0)))
 (.seq (.block 1
  (.reg [⟨(some 11), .mv, [.t 3], none⟩,
    ⟨(some 12), .mv, [.t 0], none⟩,
    ⟨(some 13), .mv, [.t 4], none⟩,
    ⟨(some 14), (.binI .shr), [.t 12, .t 13], none⟩,
    ⟨(some 15), (.binI .rem), [.t 14, .c (.i .i64 2)], none⟩,
    ⟨(some 16), (.binI .add), [.t 11, .t 15], none⟩,
    ⟨(some 3), .mv, [.t 16], none⟩] [0, 3, 4]))
 (.reg [⟨(some 9), .mv, [.t 4], none⟩,
   ⟨(some 10), (.binI .add), [.t 9, .c (.i .i64 1)], none⟩,
   ⟨(some 4), .mv, [.t 10], none⟩] [0, 3, 4])))

def l23_1 : DC :=
 (.loop [0, 3, 4] b23_0)

def c23 : DC :=
 (.seq (.reg [⟨(some 2), .mv, [.c (.i .i64 0)], none⟩] [0])
 (.seq (.reg [⟨(some 3), .mv, [.c (.i .i64 0)], none⟩] [0, 3])
 (.seq (.seq (.reg [⟨(some 4), .mv, [.c (.i .i64 0)], none⟩] [0, 3, 4])
 (.block 0
  l23_1))
 (.seq (.reg [⟨(some 17), .mv, [.t 3], none⟩,
   ⟨(some 2), .mv, [.t 17], none⟩] [2])
 .ret))))

def d23 : DFun := ⟨1, 18, c23, [.t 2]⟩

theorem ok23 : Fok Try.prog 23 d23 := ⟨Try.f23, Try.func23, by kernel_rfl, by kernel_rfl⟩

-- bibelot/peg.Reached
def b24_0 : DC :=
 (.seq (.reg [⟨(some 30), (.binI .lss), [.t 29, .c (.i .i64 65536)], none⟩] [11, 28, 29, 30])
 (.seq (.cond (.t 30)
  .skip
  (.exit 0))
 (.seq (.block 1
  (.seq (.reg [⟨(some 31), .mv, [.t 29], none⟩,
    ⟨(some 32), .nilck, [.t 28], none⟩,
    ⟨(some 33), (.ixA 65536 1 false), [.t 32, .t 29], none⟩,
    ⟨(some 34), (.ld 1 false), [.t 33], none⟩,
    ⟨(some 12), .mv, [.t 31], none⟩,
    ⟨(some 13), .mv, [.t 34], none⟩] [11, 12, 13, 28, 29])
  (.seq (.reg [⟨(some 35), .mv, [.t 13], none⟩] [11, 12, 28, 29, 35])
  (.cond (.t 35)
   (.reg [⟨(some 36), .mv, [.t 11], none⟩,
     ⟨(some 37), .mv, [.t 12], none⟩,
     ⟨(some 38), (.bsl false [(.i .i64 0)] false 1 [0]), [.t 37], none⟩,
     ⟨(some 39), (.app 1 false 8), [.t 36, .t 38], none⟩,
     ⟨(some 11), .mv, [.t 39], none⟩] [11, 28, 29])
   .skip))))
 (.reg [⟨(some 40), (.binI .add), [.t 29, .c (.i .i64 1)], none⟩,
   ⟨(some 29), .mv, [.t 40], none⟩] [11, 28, 29]))))

def l24_1 : DC :=
 (.loop [11, 28, 29] b24_0)

def c24 : DC :=
 (.seq (.reg [⟨(some 6), .mv, [.c .nilsl], none⟩,
   ⟨(some 7), .mv, [.c (.i .i64 0)], none⟩] [0, 1, 2])
 (.seq (.seq (.reg [⟨(some 14), .mv, [.t 0], none⟩,
   ⟨(some 15), .mv, [.t 1], none⟩,
   ⟨(some 16), .mv, [.t 2], none⟩,
   ⟨(some 17), (.bsl false [(.i .i64 0)] false 1 [0]), [.t 16], none⟩,
   ⟨(some 18), (.call (.pu [])), [.c (.fn 48 [] []), .t 14, .t 15, .t 17], none⟩,
   ⟨(some 8), .mv, [.t 18], none⟩] [1, 2, 8])
 (.seq (.reg [⟨(some 19), .mv, [.t 8], none⟩,
   ⟨(some 20), (.binI .neq), [.t 19, .c (.i .i64 0)], none⟩] [1, 2, 8, 20])
 (.cond (.t 20)
  (.seq (.reg [⟨(some 21), .mv, [.t 8], none⟩,
    ⟨(some 6), .mv, [.c .nilsl], none⟩,
    ⟨(some 7), .mv, [.t 21], none⟩] [6, 7])
  .ret)
  .skip)))
 (.seq (.reg [⟨(some 23), .mv, [.t 1], none⟩,
   ⟨(some 24), .mv, [.t 2], none⟩,
   ⟨(some 25), (.call .sh), [.c (.fn 49 [] []), .t 23, .t 24], none⟩,
   ⟨(some 22), .mv, [.t 25], none⟩,
   ⟨(some 26), (.ext 0), [.t 22], none⟩,
   ⟨(some 27), (.ext 1), [.t 22], none⟩,
   ⟨(some 9), .mv, [.t 26], none⟩,
   ⟨(some 10), .mv, [.t 27], none⟩] [9])
 (.seq (.reg [⟨(some 11), .mv, [.c .nilsl], none⟩] [9, 11])
 (.seq (.seq (.reg [⟨(some 28), .mv, [.t 9], none⟩,
   ⟨(some 29), .mv, [.c (.i .i64 0)], none⟩] [11, 28, 29])
 (.block 0
  l24_1))
 (.seq (.reg [⟨(some 41), .mv, [.t 11], none⟩,
   ⟨(some 6), .mv, [.t 41], none⟩,
   ⟨(some 7), .mv, [.c (.i .i64 0)], none⟩] [6, 7])
 .ret))))))

def d24 : DFun := ⟨3, 42, c24, [.t 6, .t 7]⟩

theorem ok24 : Fok Try.prog 24 d24 := ⟨Try.f24, Try.func24, by kernel_rfl, by kernel_rfl⟩

end Go.Proofs.Try.Dn

