import Derived.Test.YtdjbpmgbaggfbaaDoorProg
import Derived.Test.YtdjbpmgbaggfbaaDoorDc
set_option linter.unusedVariables false
set_option maxRecDepth 100000
namespace Go.Proofs.Tryd.Dn
open Go.Dn

-- bibelot/bibelotlaw06.KnightFinds
def c3 : DC :=
 (.seq (.reg [⟨(some 4), .mv, [.c (.b false)], none⟩] [0, 1])
 (.seq (.reg [⟨(some 12), .mv, [.t 0], none⟩,
   ⟨(some 13), .mv, [.t 1], none⟩,
   ⟨(some 14), (.call (.pu [])), [.c (.fn 18 [] []), .t 12, .t 13], none⟩,
   ⟨(some 11), .mv, [.t 14], none⟩,
   ⟨(some 15), (.ext 0), [.t 11], none⟩,
   ⟨(some 16), (.ext 1), [.t 11], none⟩,
   ⟨(some 0), .mv, [.t 15], none⟩,
   ⟨(some 1), .mv, [.t 16], none⟩] [0, 1])
 (.seq (.reg [⟨(some 18), .mv, [.t 0], none⟩,
   ⟨(some 19), .mv, [.t 1], none⟩,
   ⟨(some 20), (.call (.pu [])), [.c (.fn 19 [] []), .t 18, .t 19], none⟩,
   ⟨(some 17), .mv, [.t 20], none⟩,
   ⟨(some 21), (.ext 0), [.t 17], none⟩,
   ⟨(some 22), (.ext 1), [.t 17], none⟩,
   ⟨(some 23), (.ext 2), [.t 17], none⟩,
   ⟨(some 5), .mv, [.t 21], none⟩,
   ⟨(some 6), .mv, [.t 22], none⟩,
   ⟨(some 7), .mv, [.t 23], none⟩] [0, 1, 5, 6, 7])
 (.seq (.reg [⟨(some 25), .mv, [.t 0], none⟩,
   ⟨(some 26), .mv, [.t 1], none⟩,
   ⟨(some 27), (.call (.pu [])), [.c (.fn 20 [] []), .t 25, .t 26], none⟩,
   ⟨(some 24), .mv, [.t 27], none⟩,
   ⟨(some 28), (.ext 0), [.t 24], none⟩,
   ⟨(some 29), (.ext 1), [.t 24], none⟩,
   ⟨(some 30), (.ext 2), [.t 24], none⟩,
   ⟨(some 8), .mv, [.t 28], none⟩,
   ⟨(some 9), .mv, [.t 29], none⟩,
   ⟨(some 10), .mv, [.t 30], none⟩] [0, 1, 5, 6, 7, 8, 9, 10])
 (.seq (.seq (.reg [⟨(some 31), .mv, [.t 7], none⟩,
   ⟨(some 32), (.binI .neq), [.t 31, .c (.i .i64 0)], none⟩,
   ⟨(some 33), .mv, [.t 32], none⟩,
   ⟨(some 34), .mv, [.t 10], (some (33, false))⟩,
   ⟨(some 35), (.binI .neq), [.t 34, .c (.i .i64 0)], (some (33, false))⟩,
   ⟨(some 36), .pick, [.t 33, .c (.b true), .t 35], none⟩,
   ⟨(some 37), .mv, [.t 36], none⟩,
   ⟨(some 38), .mv, [.t 6], (some (37, false))⟩,
   ⟨(some 39), .mv, [.t 0], (some (37, false))⟩,
   ⟨(some 40), .mv, [.t 1], (some (37, false))⟩,
   ⟨(some 41), (.call (.pu [])), [.c (.fn 21 [] []), .t 39, .t 40], (some (37, false))⟩,
   ⟨(some 42), (.eqB true), [.t 38, .t 41], (some (37, false))⟩,
   ⟨(some 43), .pick, [.t 37, .c (.b true), .t 42], none⟩,
   ⟨(some 44), .mv, [.t 43], none⟩,
   ⟨(some 45), .mv, [.t 9], (some (44, false))⟩,
   ⟨(some 46), .mv, [.t 0], (some (44, false))⟩,
   ⟨(some 47), .mv, [.t 1], (some (44, false))⟩,
   ⟨(some 48), (.call (.pu [])), [.c (.fn 22 [] []), .t 46, .t 47], (some (44, false))⟩,
   ⟨(some 49), (.eqB true), [.t 45, .t 48], (some (44, false))⟩,
   ⟨(some 50), .pick, [.t 44, .c (.b true), .t 49], none⟩] [0, 1, 5, 6, 8, 9, 50])
 (.cond (.t 50)
  (.seq (.reg [⟨(some 4), .mv, [.c (.b false)], none⟩] [4])
  .ret)
  .skip))
 (.seq (.seq (.reg [⟨(some 51), .mv, [.t 6], none⟩,
   ⟨(some 52), .mv, [.t 51], none⟩,
   ⟨(some 53), .mv, [.t 0], (some (52, true))⟩,
   ⟨(some 54), .mv, [.t 1], (some (52, true))⟩,
   ⟨(some 55), .mv, [.t 5], (some (52, true))⟩,
   ⟨(some 56), (.call (.pu [])), [.c (.fn 23 [] []), .t 53, .t 54, .t 55], (some (52, true))⟩,
   ⟨(some 57), .notB, [.t 56], (some (52, true))⟩,
   ⟨(some 58), .mv, [.t 57], (some (52, true))⟩,
   ⟨(some 59), .mv, [.t 1], (some (58, false))⟩,
   ⟨(some 60), .mv, [.t 5], (some (58, false))⟩,
   ⟨(some 61), (.call (.pu [])), [.c (.fn 24 [] []), .t 59, .t 60], (some (58, false))⟩,
   ⟨(some 62), .notB, [.t 61], (some (58, false))⟩,
   ⟨(some 63), .pick, [.t 58, .c (.b true), .t 62], (some (52, true))⟩,
   ⟨(some 64), .pick, [.t 52, .t 63, .c (.b false)], none⟩,
   ⟨(some 65), .mv, [.t 64], none⟩,
   ⟨(some 66), .mv, [.t 6], (some (65, false))⟩,
   ⟨(some 67), .notB, [.t 66], (some (65, false))⟩,
   ⟨(some 68), .mv, [.t 67], (some (65, false))⟩,
   ⟨(some 69), .mv, [.t 5], (some (68, true))⟩,
   ⟨(some 70), (.len 0), [.t 69], (some (68, true))⟩,
   ⟨(some 71), (.binI .neq), [.t 70, .c (.i .i64 0)], (some (68, true))⟩,
   ⟨(some 72), .pick, [.t 68, .t 71, .c (.b false)], (some (65, false))⟩,
   ⟨(some 73), .pick, [.t 65, .c (.b true), .t 72], none⟩,
   ⟨(some 74), .mv, [.t 73], none⟩,
   ⟨(some 75), .mv, [.t 9], (some (74, false))⟩,
   ⟨(some 76), .mv, [.t 75], (some (74, false))⟩,
   ⟨(some 77), .mv, [.t 0], (some (76, true))⟩,
   ⟨(some 78), .mv, [.t 1], (some (76, true))⟩,
   ⟨(some 79), .mv, [.t 8], (some (76, true))⟩,
   ⟨(some 80), (.call (.pu [])), [.c (.fn 23 [] []), .t 77, .t 78, .t 79], (some (76, true))⟩,
   ⟨(some 81), .notB, [.t 80], (some (76, true))⟩,
   ⟨(some 82), .pick, [.t 76, .t 81, .c (.b false)], (some (74, false))⟩,
   ⟨(some 83), .pick, [.t 74, .c (.b true), .t 82], none⟩,
   ⟨(some 84), .mv, [.t 83], none⟩,
   ⟨(some 85), .mv, [.t 9], (some (84, false))⟩,
   ⟨(some 86), .notB, [.t 85], (some (84, false))⟩,
   ⟨(some 87), .mv, [.t 86], (some (84, false))⟩,
   ⟨(some 88), .mv, [.t 8], (some (87, true))⟩,
   ⟨(some 89), (.len 0), [.t 88], (some (87, true))⟩,
   ⟨(some 90), (.binI .neq), [.t 89, .c (.i .i64 0)], (some (87, true))⟩,
   ⟨(some 91), .pick, [.t 87, .t 90, .c (.b false)], (some (84, false))⟩,
   ⟨(some 92), .pick, [.t 84, .c (.b true), .t 91], none⟩] [92])
 (.cond (.t 92)
  (.seq (.reg [⟨(some 4), .mv, [.c (.b false)], none⟩] [4])
  .ret)
  .skip))
 (.seq (.reg [⟨(some 93), (.call (.pu [])), [.c (.fn 25 [] [])], none⟩,
   ⟨(some 4), .mv, [.t 93], none⟩] [4])
 .ret)))))))

def d3 : DFun := ⟨2, 94, c3, [.t 4]⟩

def b4_0 : DC :=
 (.seq (.seq (.reg [⟨(some 39), .mv, [.t 10], none⟩,
   ⟨(some 40), (.binI .lss), [.t 39, .c (.i .i64 2)], none⟩] [0, 1, 7, 8, 9, 10, 40])
 (.cond (.t 40)
  .skip
  (.exit 0)))
 (.seq (.block 1
  (.seq (.reg [⟨(some 44), .mv, [.t 0], none⟩,
    ⟨(some 45), .mv, [.t 1], none⟩,
    ⟨(some 46), .mv, [.t 7], none⟩,
    ⟨(some 47), .mv, [.t 8], none⟩,
    ⟨(some 48), .mv, [.t 9], none⟩,
    ⟨(some 49), (.call (.pu [])), [.c (.fn 26 [] []), .t 44, .t 45, .t 46, .t 47, .t 48], none⟩,
    ⟨(some 43), .mv, [.t 49], none⟩,
    ⟨(some 50), (.ext 0), [.t 43], none⟩,
    ⟨(some 51), (.ext 1), [.t 43], none⟩,
    ⟨(some 11), .mv, [.t 50], none⟩,
    ⟨(some 12), .mv, [.t 51], none⟩] [0, 1, 7, 8, 9, 10, 11, 12])
  (.seq (.seq (.reg [⟨(some 52), .mv, [.t 9], none⟩,
    ⟨(some 53), (.binI .lss), [.t 52, .c (.i .i64 0)], none⟩,
    ⟨(some 54), .mv, [.t 53], none⟩,
    ⟨(some 55), .mv, [.t 9], (some (54, false))⟩,
    ⟨(some 56), (.binI .gtr), [.t 55, .c (.i .i64 15)], (some (54, false))⟩,
    ⟨(some 57), .pick, [.t 54, .c (.b true), .t 56], none⟩] [0, 1, 7, 8, 9, 10, 11, 12, 57])
  (.cond (.t 57)
   (.seq (.reg [⟨(some 58), .mv, [.t 12], none⟩,
     ⟨(some 59), (.binI .neq), [.t 58, .c (.i .i64 1)], none⟩,
     ⟨(some 60), .mv, [.t 59], none⟩,
     ⟨(some 61), .mv, [.t 11], (some (60, false))⟩,
     ⟨(some 62), (.binI .neq), [.t 61, .c (.i .i64 0)], (some (60, false))⟩,
     ⟨(some 63), .pick, [.t 60, .c (.b true), .t 62], none⟩] [0, 1, 7, 8, 9, 10, 63])
   (.cond (.t 63)
    (.seq (.reg [⟨(some 6), .mv, [.c (.b false)], none⟩] [6])
    .ret)
    .skip))
   (.seq (.reg [⟨(some 64), .mv, [.t 12], none⟩,
     ⟨(some 65), (.binI .neq), [.t 64, .c (.i .i64 0)], none⟩,
     ⟨(some 66), .mv, [.t 65], none⟩,
     ⟨(some 67), .mv, [.t 11], (some (66, false))⟩,
     ⟨(some 68), .mv, [.t 0], (some (66, false))⟩,
     ⟨(some 69), .mv, [.t 1], (some (66, false))⟩,
     ⟨(some 70), .mv, [.t 7], (some (66, false))⟩,
     ⟨(some 71), .mv, [.t 8], (some (66, false))⟩,
     ⟨(some 72), .mv, [.t 9], (some (66, false))⟩,
     ⟨(some 73), (.call (.pu [])), [.c (.fn 27 [] []), .t 68, .t 69, .t 70, .t 71, .t 72], (some (66, false))⟩,
     ⟨(some 74), (.binI .neq), [.t 67, .t 73], (some (66, false))⟩,
     ⟨(some 75), .pick, [.t 66, .c (.b true), .t 74], none⟩] [0, 1, 7, 8, 9, 10, 75])
   (.cond (.t 75)
    (.seq (.reg [⟨(some 6), .mv, [.c (.b false)], none⟩] [6])
    .ret)
    .skip))))
  (.reg [⟨(some 76), .mv, [.t 9], none⟩,
    ⟨(some 77), (.conv .u64), [.t 76], none⟩,
    ⟨(some 78), (.binI .rem), [.t 77, .c (.i .u64 16)], none⟩,
    ⟨(some 79), (.conv .i64), [.t 78], none⟩,
    ⟨(some 9), .mv, [.t 79], none⟩] [0, 1, 7, 8, 9, 10]))))
 (.reg [⟨(some 41), .mv, [.t 10], none⟩,
   ⟨(some 42), (.binI .add), [.t 41, .c (.i .i64 1)], none⟩,
   ⟨(some 10), .mv, [.t 42], none⟩] [0, 1, 7, 8, 9, 10])))

def l4_1 : DC :=
 (.loop [0, 1, 7, 8, 9, 10] b4_0)

def c4 : DC :=
 (.seq (.reg [⟨(some 5), (.box true), [.t 2], none⟩,
   ⟨(some 6), .mv, [.c (.b false)], none⟩] [0, 1, 5])
 (.seq (.reg [⟨(some 14), .mv, [.t 0], none⟩,
   ⟨(some 15), .mv, [.t 1], none⟩,
   ⟨(some 16), (.call (.pu [])), [.c (.fn 18 [] []), .t 14, .t 15], none⟩,
   ⟨(some 13), .mv, [.t 16], none⟩,
   ⟨(some 17), (.ext 0), [.t 13], none⟩,
   ⟨(some 18), (.ext 1), [.t 13], none⟩,
   ⟨(some 0), .mv, [.t 17], none⟩,
   ⟨(some 1), .mv, [.t 18], none⟩] [0, 1, 5])
 (.seq (.reg [⟨(some 19), (.ixA 3 1 false), [.t 5, .c (.i .i64 0)], none⟩,
   ⟨(some 20), (.ld 1 false), [.t 19], none⟩,
   ⟨(some 21), (.conv .u64), [.t 20], none⟩,
   ⟨(some 22), .mv, [.t 0], none⟩,
   ⟨(some 23), .mv, [.t 1], none⟩,
   ⟨(some 24), (.binI .mul), [.t 22, .t 23], none⟩,
   ⟨(some 25), (.conv .u64), [.t 24], none⟩,
   ⟨(some 26), (.binI .rem), [.t 21, .t 25], none⟩,
   ⟨(some 27), (.conv .i64), [.t 26], none⟩,
   ⟨(some 28), (.ixA 3 1 false), [.t 5, .c (.i .i64 1)], none⟩,
   ⟨(some 29), (.ld 1 false), [.t 28], none⟩,
   ⟨(some 30), (.conv .u64), [.t 29], none⟩,
   ⟨(some 31), .mv, [.t 0], none⟩,
   ⟨(some 32), .mv, [.t 1], none⟩,
   ⟨(some 33), (.binI .mul), [.t 31, .t 32], none⟩,
   ⟨(some 34), (.conv .u64), [.t 33], none⟩,
   ⟨(some 35), (.binI .rem), [.t 30, .t 34], none⟩,
   ⟨(some 36), (.conv .i64), [.t 35], none⟩,
   ⟨(some 7), .mv, [.t 27], none⟩,
   ⟨(some 8), .mv, [.t 36], none⟩] [0, 1, 5, 7, 8])
 (.seq (.reg [⟨(some 37), (.ixA 3 1 false), [.t 5, .c (.i .i64 2)], none⟩,
   ⟨(some 38), (.ld 1 false), [.t 37], none⟩,
   ⟨(some 9), .mv, [.t 38], none⟩] [0, 1, 7, 8, 9])
 (.seq (.seq (.reg [⟨(some 10), .mv, [.c (.i .i64 0)], none⟩] [0, 1, 7, 8, 9, 10])
 (.block 0
  l4_1))
 (.seq (.reg [⟨(some 80), (.call (.pu [])), [.c (.fn 25 [] [])], none⟩,
   ⟨(some 6), .mv, [.t 80], none⟩] [6])
 .ret))))))

def d4 : DFun := ⟨3, 81, c4, [.t 6]⟩

def b5_0 : DC :=
 (.seq (.seq (.reg [⟨(some 94), .mv, [.t 17], none⟩,
   ⟨(some 95), .mv, [.t 14], none⟩,
   ⟨(some 96), (.len 0), [.t 95], none⟩,
   ⟨(some 97), (.binI .lss), [.t 94, .t 96], none⟩] [0, 1, 7, 8, 9, 10, 14, 16, 17, 97])
 (.cond (.t 97)
  .skip
  (.exit 0)))
 (.seq (.block 1
  (.seq (.reg [⟨(some 101), .mv, [.t 0], none⟩,
    ⟨(some 102), .mv, [.t 1], none⟩,
    ⟨(some 103), .mv, [.t 7], none⟩,
    ⟨(some 104), .mv, [.t 14], none⟩,
    ⟨(some 105), .mv, [.t 17], none⟩,
    ⟨(some 106), (.ixS 1 false), [.t 104, .t 105], none⟩,
    ⟨(some 107), (.ld 1 false), [.t 106], none⟩,
    ⟨(some 108), .mv, [.t 9], none⟩,
    ⟨(some 109), (.call (.pu [])), [.c (.fn 26 [] []), .t 101, .t 102, .t 103, .t 107, .t 108], none⟩,
    ⟨(some 100), .mv, [.t 109], none⟩,
    ⟨(some 110), (.ext 0), [.t 100], none⟩,
    ⟨(some 111), (.ext 1), [.t 100], none⟩,
    ⟨(some 18), .mv, [.t 110], none⟩,
    ⟨(some 19), .mv, [.t 111], none⟩] [0, 1, 7, 8, 9, 10, 14, 16, 17, 18, 19])
  (.seq (.seq (.reg [⟨(some 112), .mv, [.t 19], none⟩,
    ⟨(some 113), (.binI .neq), [.t 112, .c (.i .i64 0)], none⟩] [0, 1, 7, 8, 9, 10, 14, 16, 17, 18, 113])
  (.cond (.t 113)
   (.seq (.reg [⟨(some 6), .mv, [.c (.b false)], none⟩] [6])
   .ret)
   .skip))
  (.reg [⟨(some 114), .mv, [.t 16], none⟩,
    ⟨(some 115), .mv, [.t 18], none⟩,
    ⟨(some 116), (.binI .add), [.t 114, .t 115], none⟩,
    ⟨(some 16), .mv, [.t 116], none⟩] [0, 1, 7, 8, 9, 10, 14, 16, 17]))))
 (.reg [⟨(some 98), .mv, [.t 17], none⟩,
   ⟨(some 99), (.binI .add), [.t 98, .c (.i .i64 1)], none⟩,
   ⟨(some 17), .mv, [.t 99], none⟩] [0, 1, 7, 8, 9, 10, 14, 16, 17])))

def l5_1 : DC :=
 (.loop [0, 1, 7, 8, 9, 10, 14, 16, 17] b5_0)

def c5 : DC :=
 (.seq (.reg [⟨(some 5), (.box true), [.t 2], none⟩,
   ⟨(some 6), .mv, [.c (.b false)], none⟩] [0, 1, 5])
 (.seq (.reg [⟨(some 24), .mv, [.t 0], none⟩,
   ⟨(some 25), .mv, [.t 1], none⟩,
   ⟨(some 26), (.call (.pu [])), [.c (.fn 18 [] []), .t 24, .t 25], none⟩,
   ⟨(some 23), .mv, [.t 26], none⟩,
   ⟨(some 27), (.ext 0), [.t 23], none⟩,
   ⟨(some 28), (.ext 1), [.t 23], none⟩,
   ⟨(some 0), .mv, [.t 27], none⟩,
   ⟨(some 1), .mv, [.t 28], none⟩] [0, 1, 5])
 (.seq (.reg [⟨(some 29), (.ixA 3 1 false), [.t 5, .c (.i .i64 0)], none⟩,
   ⟨(some 30), (.ld 1 false), [.t 29], none⟩,
   ⟨(some 31), (.conv .u64), [.t 30], none⟩,
   ⟨(some 32), .mv, [.t 0], none⟩,
   ⟨(some 33), .mv, [.t 1], none⟩,
   ⟨(some 34), (.binI .mul), [.t 32, .t 33], none⟩,
   ⟨(some 35), (.conv .u64), [.t 34], none⟩,
   ⟨(some 36), (.binI .rem), [.t 31, .t 35], none⟩,
   ⟨(some 37), (.conv .i64), [.t 36], none⟩,
   ⟨(some 38), (.ixA 3 1 false), [.t 5, .c (.i .i64 1)], none⟩,
   ⟨(some 39), (.ld 1 false), [.t 38], none⟩,
   ⟨(some 40), (.conv .u64), [.t 39], none⟩,
   ⟨(some 41), .mv, [.t 0], none⟩,
   ⟨(some 42), .mv, [.t 1], none⟩,
   ⟨(some 43), (.binI .mul), [.t 41, .t 42], none⟩,
   ⟨(some 44), (.conv .u64), [.t 43], none⟩,
   ⟨(some 45), (.binI .rem), [.t 40, .t 44], none⟩,
   ⟨(some 46), (.conv .i64), [.t 45], none⟩,
   ⟨(some 7), .mv, [.t 37], none⟩,
   ⟨(some 8), .mv, [.t 46], none⟩] [0, 1, 5, 7, 8])
 (.seq (.reg [⟨(some 47), (.ixA 3 1 false), [.t 5, .c (.i .i64 2)], none⟩,
   ⟨(some 48), (.ld 1 false), [.t 47], none⟩,
   ⟨(some 49), (.conv .u64), [.t 48], none⟩,
   ⟨(some 50), (.binI .rem), [.t 49, .c (.i .u64 15)], none⟩,
   ⟨(some 51), (.conv .i64), [.t 50], none⟩,
   ⟨(some 9), .mv, [.t 51], none⟩] [0, 1, 7, 8, 9])
 (.seq (.reg [⟨(some 53), .mv, [.t 0], none⟩,
   ⟨(some 54), .mv, [.t 1], none⟩,
   ⟨(some 55), .mv, [.t 7], none⟩,
   ⟨(some 56), .mv, [.t 8], none⟩,
   ⟨(some 57), .mv, [.t 9], none⟩,
   ⟨(some 58), (.binI .add), [.t 57, .c (.i .i64 1)], none⟩,
   ⟨(some 59), (.call (.pu [])), [.c (.fn 26 [] []), .t 53, .t 54, .t 55, .t 56, .t 58], none⟩,
   ⟨(some 52), .mv, [.t 59], none⟩,
   ⟨(some 60), (.ext 0), [.t 52], none⟩,
   ⟨(some 61), (.ext 1), [.t 52], none⟩,
   ⟨(some 10), .mv, [.t 60], none⟩,
   ⟨(some 11), .mv, [.t 61], none⟩] [0, 1, 7, 8, 9, 10, 11])
 (.seq (.reg [⟨(some 63), .mv, [.t 0], none⟩,
   ⟨(some 64), .mv, [.t 1], none⟩,
   ⟨(some 65), .mv, [.t 8], none⟩,
   ⟨(some 66), .mv, [.t 7], none⟩,
   ⟨(some 67), .mv, [.t 9], none⟩,
   ⟨(some 68), (.binI .add), [.t 67, .c (.i .i64 1)], none⟩,
   ⟨(some 69), (.call (.pu [])), [.c (.fn 26 [] []), .t 63, .t 64, .t 65, .t 66, .t 68], none⟩,
   ⟨(some 62), .mv, [.t 69], none⟩,
   ⟨(some 70), (.ext 0), [.t 62], none⟩,
   ⟨(some 71), (.ext 1), [.t 62], none⟩,
   ⟨(some 12), .mv, [.t 70], none⟩,
   ⟨(some 13), .mv, [.t 71], none⟩] [0, 1, 7, 8, 9, 10, 11, 12, 13])
 (.seq (.reg [⟨(some 73), .mv, [.t 0], none⟩,
   ⟨(some 74), .mv, [.t 1], none⟩,
   ⟨(some 75), .mv, [.t 8], none⟩,
   ⟨(some 76), (.call (.pu [])), [.c (.fn 28 [] []), .t 73, .t 74, .t 75], none⟩,
   ⟨(some 72), .mv, [.t 76], none⟩,
   ⟨(some 77), (.ext 0), [.t 72], none⟩,
   ⟨(some 78), (.ext 1), [.t 72], none⟩,
   ⟨(some 14), .mv, [.t 77], none⟩,
   ⟨(some 15), .mv, [.t 78], none⟩] [0, 1, 7, 8, 9, 10, 11, 12, 13, 14, 15])
 (.seq (.seq (.reg [⟨(some 79), .mv, [.t 11], none⟩,
   ⟨(some 80), (.binI .neq), [.t 79, .c (.i .i64 0)], none⟩,
   ⟨(some 81), .mv, [.t 80], none⟩,
   ⟨(some 82), .mv, [.t 13], (some (81, false))⟩,
   ⟨(some 83), (.binI .neq), [.t 82, .c (.i .i64 0)], (some (81, false))⟩,
   ⟨(some 84), .pick, [.t 81, .c (.b true), .t 83], none⟩,
   ⟨(some 85), .mv, [.t 84], none⟩,
   ⟨(some 86), .mv, [.t 15], (some (85, false))⟩,
   ⟨(some 87), (.binI .neq), [.t 86, .c (.i .i64 0)], (some (85, false))⟩,
   ⟨(some 88), .pick, [.t 85, .c (.b true), .t 87], none⟩,
   ⟨(some 89), .mv, [.t 88], none⟩,
   ⟨(some 90), .mv, [.t 10], (some (89, false))⟩,
   ⟨(some 91), .mv, [.t 12], (some (89, false))⟩,
   ⟨(some 92), (.binI .neq), [.t 90, .t 91], (some (89, false))⟩,
   ⟨(some 93), .pick, [.t 89, .c (.b true), .t 92], none⟩] [0, 1, 7, 8, 9, 10, 14, 93])
 (.cond (.t 93)
  (.seq (.reg [⟨(some 6), .mv, [.c (.b false)], none⟩] [6])
  .ret)
  .skip))
 (.seq (.reg [⟨(some 16), .mv, [.c (.i .i64 0)], none⟩] [0, 1, 7, 8, 9, 10, 14, 16])
 (.seq (.seq (.reg [⟨(some 17), .mv, [.c (.i .i64 0)], none⟩] [0, 1, 7, 8, 9, 10, 14, 16, 17])
 (.block 0
  l5_1))
 (.seq (.reg [⟨(some 118), .mv, [.t 0], none⟩,
   ⟨(some 119), .mv, [.t 1], none⟩,
   ⟨(some 120), .mv, [.t 7], none⟩,
   ⟨(some 121), .mv, [.t 8], none⟩,
   ⟨(some 122), (.call (.pu [])), [.c (.fn 29 [] []), .t 118, .t 119, .t 120, .t 121], none⟩,
   ⟨(some 117), .mv, [.t 122], none⟩,
   ⟨(some 123), (.ext 0), [.t 117], none⟩,
   ⟨(some 124), (.ext 1), [.t 117], none⟩,
   ⟨(some 125), (.ext 2), [.t 117], none⟩,
   ⟨(some 20), .mv, [.t 123], none⟩,
   ⟨(some 21), .mv, [.t 124], none⟩,
   ⟨(some 22), .mv, [.t 125], none⟩] [9, 10, 16, 20, 21, 22])
 (.seq (.seq (.reg [⟨(some 126), .mv, [.t 22], none⟩,
   ⟨(some 127), (.binI .neq), [.t 126, .c (.i .i64 0)], none⟩,
   ⟨(some 128), .mv, [.t 127], none⟩,
   ⟨(some 129), .mv, [.t 16], (some (128, false))⟩,
   ⟨(some 130), .mv, [.t 10], (some (128, false))⟩,
   ⟨(some 131), (.binI .neq), [.t 129, .t 130], (some (128, false))⟩,
   ⟨(some 132), .pick, [.t 128, .c (.b true), .t 131], none⟩,
   ⟨(some 133), .mv, [.t 132], none⟩,
   ⟨(some 134), .mv, [.t 10], (some (133, false))⟩,
   ⟨(some 135), (.binI .lss), [.t 134, .c (.i .i64 0)], (some (133, false))⟩,
   ⟨(some 136), .pick, [.t 133, .c (.b true), .t 135], none⟩] [9, 10, 20, 21, 136])
 (.cond (.t 136)
  (.seq (.reg [⟨(some 6), .mv, [.c (.b false)], none⟩] [6])
  .ret)
  .skip))
 (.seq (.seq (.reg [⟨(some 137), .mv, [.t 21], none⟩,
   ⟨(some 138), .notB, [.t 137], none⟩,
   ⟨(some 139), .mv, [.t 138], none⟩,
   ⟨(some 140), .mv, [.t 20], (some (139, false))⟩,
   ⟨(some 141), .mv, [.t 9], (some (139, false))⟩,
   ⟨(some 142), (.binI .add), [.t 141, .c (.i .i64 1)], (some (139, false))⟩,
   ⟨(some 143), (.binI .gtr), [.t 140, .t 142], (some (139, false))⟩,
   ⟨(some 144), .pick, [.t 139, .c (.b true), .t 143], none⟩] [9, 10, 20, 144])
 (.cond (.t 144)
  (.seq (.reg [⟨(some 145), .mv, [.t 10], none⟩,
    ⟨(some 146), (.binI .eql), [.t 145, .c (.i .i64 0)], none⟩,
    ⟨(some 147), .mv, [.t 146], none⟩,
    ⟨(some 148), (.call (.pu [])), [.c (.fn 25 [] [])], (some (147, true))⟩,
    ⟨(some 149), .pick, [.t 147, .t 148, .c (.b false)], none⟩,
    ⟨(some 6), .mv, [.t 149], none⟩] [6])
  .ret)
  .skip))
 (.seq (.reg [⟨(some 150), .mv, [.t 9], none⟩,
   ⟨(some 151), (.binI .add), [.t 150, .c (.i .i64 1)], none⟩,
   ⟨(some 152), .mv, [.t 20], none⟩,
   ⟨(some 153), (.binI .sub), [.t 151, .t 152], none⟩,
   ⟨(some 154), (.binI .rem), [.t 153, .c (.i .i64 2)], none⟩,
   ⟨(some 155), (.binI .neq), [.t 154, .c (.i .i64 0)], none⟩,
   ⟨(some 156), .mv, [.t 155], none⟩,
   ⟨(some 157), .mv, [.t 10], (some (156, false))⟩,
   ⟨(some 158), (.binI .gtr), [.t 157, .c (.i .i64 0)], (some (156, false))⟩,
   ⟨(some 159), .pick, [.t 156, .c (.b true), .t 158], none⟩,
   ⟨(some 160), .mv, [.t 159], none⟩,
   ⟨(some 161), .mv, [.t 20], (some (160, false))⟩,
   ⟨(some 162), (.binI .eql), [.t 161, .c (.i .i64 0)], (some (160, false))⟩,
   ⟨(some 163), .pick, [.t 160, .c (.b true), .t 162], none⟩,
   ⟨(some 164), .mv, [.t 163], none⟩,
   ⟨(some 165), (.call (.pu [])), [.c (.fn 25 [] [])], (some (164, true))⟩,
   ⟨(some 166), .pick, [.t 164, .t 165, .c (.b false)], none⟩,
   ⟨(some 6), .mv, [.t 166], none⟩] [6])
 .ret))))))))))))))

def c6 : DC :=
 (.seq (.reg [⟨(some 5), (.box true), [.t 2], none⟩,
   ⟨(some 6), .mv, [.c (.b false)], none⟩] [0, 1, 5])
 (.seq (.reg [⟨(some 19), .mv, [.t 0], none⟩,
   ⟨(some 20), .mv, [.t 1], none⟩,
   ⟨(some 21), (.call (.pu [])), [.c (.fn 18 [] []), .t 19, .t 20], none⟩,
   ⟨(some 18), .mv, [.t 21], none⟩,
   ⟨(some 22), (.ext 0), [.t 18], none⟩,
   ⟨(some 23), (.ext 1), [.t 18], none⟩,
   ⟨(some 0), .mv, [.t 22], none⟩,
   ⟨(some 1), .mv, [.t 23], none⟩] [0, 1, 5])
 (.seq (.reg [⟨(some 24), (.ixA 2 1 false), [.t 5, .c (.i .i64 0)], none⟩,
   ⟨(some 25), (.ld 1 false), [.t 24], none⟩,
   ⟨(some 26), (.conv .u64), [.t 25], none⟩,
   ⟨(some 27), .mv, [.t 0], none⟩,
   ⟨(some 28), .mv, [.t 1], none⟩,
   ⟨(some 29), (.binI .mul), [.t 27, .t 28], none⟩,
   ⟨(some 30), (.conv .u64), [.t 29], none⟩,
   ⟨(some 31), (.binI .rem), [.t 26, .t 30], none⟩,
   ⟨(some 32), (.conv .i64), [.t 31], none⟩,
   ⟨(some 33), (.ixA 2 1 false), [.t 5, .c (.i .i64 1)], none⟩,
   ⟨(some 34), (.ld 1 false), [.t 33], none⟩,
   ⟨(some 35), (.conv .u64), [.t 34], none⟩,
   ⟨(some 36), .mv, [.t 0], none⟩,
   ⟨(some 37), .mv, [.t 1], none⟩,
   ⟨(some 38), (.binI .mul), [.t 36, .t 37], none⟩,
   ⟨(some 39), (.conv .u64), [.t 38], none⟩,
   ⟨(some 40), (.binI .rem), [.t 35, .t 39], none⟩,
   ⟨(some 41), (.conv .i64), [.t 40], none⟩,
   ⟨(some 7), .mv, [.t 32], none⟩,
   ⟨(some 8), .mv, [.t 41], none⟩] [0, 1, 7, 8])
 (.seq (.reg [⟨(some 43), .mv, [.t 0], none⟩,
   ⟨(some 44), .mv, [.t 1], none⟩,
   ⟨(some 45), .mv, [.t 7], none⟩,
   ⟨(some 46), (.call (.pu [])), [.c (.fn 28 [] []), .t 43, .t 44, .t 45], none⟩,
   ⟨(some 42), .mv, [.t 46], none⟩,
   ⟨(some 47), (.ext 0), [.t 42], none⟩,
   ⟨(some 48), (.ext 1), [.t 42], none⟩,
   ⟨(some 9), .mv, [.t 47], none⟩,
   ⟨(some 10), .mv, [.t 48], none⟩] [0, 1, 7, 8, 9, 10])
 (.seq (.reg [⟨(some 50), .mv, [.t 0], none⟩,
   ⟨(some 51), .mv, [.t 1], none⟩,
   ⟨(some 52), .mv, [.t 7], none⟩,
   ⟨(some 53), .mv, [.t 8], none⟩,
   ⟨(some 54), (.call (.pu [])), [.c (.fn 29 [] []), .t 50, .t 51, .t 52, .t 53], none⟩,
   ⟨(some 49), .mv, [.t 54], none⟩,
   ⟨(some 55), (.ext 0), [.t 49], none⟩,
   ⟨(some 56), (.ext 1), [.t 49], none⟩,
   ⟨(some 57), (.ext 2), [.t 49], none⟩,
   ⟨(some 11), .mv, [.t 55], none⟩,
   ⟨(some 12), .mv, [.t 56], none⟩,
   ⟨(some 13), .mv, [.t 57], none⟩] [0, 1, 7, 8, 9, 10, 11, 12, 13])
 (.seq (.reg [⟨(some 59), .mv, [.t 0], none⟩,
   ⟨(some 60), .mv, [.t 1], none⟩,
   ⟨(some 61), .mv, [.t 7], none⟩,
   ⟨(some 62), .mv, [.t 8], none⟩,
   ⟨(some 63), (.call (.pu [])), [.c (.fn 30 [] []), .t 59, .t 60, .t 61, .t 62], none⟩,
   ⟨(some 58), .mv, [.t 63], none⟩,
   ⟨(some 64), (.ext 0), [.t 58], none⟩,
   ⟨(some 65), (.ext 1), [.t 58], none⟩,
   ⟨(some 66), (.ext 2), [.t 58], none⟩,
   ⟨(some 14), .mv, [.t 64], none⟩,
   ⟨(some 15), .mv, [.t 65], none⟩,
   ⟨(some 16), .mv, [.t 66], none⟩] [0, 1, 7, 8, 9, 10, 11, 12, 13, 14, 15, 16])
 (.seq (.reg [⟨(some 67), .mv, [.t 0], none⟩,
   ⟨(some 68), .mv, [.t 1], none⟩,
   ⟨(some 69), .mv, [.t 7], none⟩,
   ⟨(some 70), (.call (.pu [])), [.c (.fn 31 [] []), .t 67, .t 68, .t 69], none⟩,
   ⟨(some 71), .mv, [.t 8], none⟩,
   ⟨(some 72), (.ixS 1 false), [.t 70, .t 71], none⟩,
   ⟨(some 73), (.ld 1 false), [.t 72], none⟩,
   ⟨(some 17), .mv, [.t 73], none⟩] [0, 1, 7, 8, 9, 10, 11, 12, 13, 14, 15, 16, 17])
 (.seq (.seq (.reg [⟨(some 74), .mv, [.t 10], none⟩,
   ⟨(some 75), (.binI .neq), [.t 74, .c (.i .i64 0)], none⟩,
   ⟨(some 76), .mv, [.t 75], none⟩,
   ⟨(some 77), .mv, [.t 13], (some (76, false))⟩,
   ⟨(some 78), (.binI .neq), [.t 77, .c (.i .i64 0)], (some (76, false))⟩,
   ⟨(some 79), .pick, [.t 76, .c (.b true), .t 78], none⟩,
   ⟨(some 80), .mv, [.t 79], none⟩,
   ⟨(some 81), .mv, [.t 16], (some (80, false))⟩,
   ⟨(some 82), (.binI .neq), [.t 81, .c (.i .i64 0)], (some (80, false))⟩,
   ⟨(some 83), .pick, [.t 80, .c (.b true), .t 82], none⟩,
   ⟨(some 84), .mv, [.t 83], none⟩,
   ⟨(some 85), .mv, [.t 9], (some (84, false))⟩,
   ⟨(some 86), .mv, [.t 0], (some (84, false))⟩,
   ⟨(some 87), .mv, [.t 1], (some (84, false))⟩,
   ⟨(some 88), .mv, [.t 7], (some (84, false))⟩,
   ⟨(some 89), (.call (.pu [])), [.c (.fn 33 [] []), .t 86, .t 87, .t 88], (some (84, false))⟩,
   ⟨(some 90), (.call (.pu [])), [.c (.fn 32 [] []), .t 85, .t 89], (some (84, false))⟩,
   ⟨(some 91), .notB, [.t 90], (some (84, false))⟩,
   ⟨(some 92), .pick, [.t 84, .c (.b true), .t 91], none⟩,
   ⟨(some 93), .mv, [.t 92], none⟩,
   ⟨(some 94), .mv, [.t 12], (some (93, false))⟩,
   ⟨(some 95), .mv, [.t 17], (some (93, false))⟩,
   ⟨(some 96), (.binI .geq), [.t 95, .c (.i .i64 0)], (some (93, false))⟩,
   ⟨(some 97), (.eqB true), [.t 94, .t 96], (some (93, false))⟩,
   ⟨(some 98), .pick, [.t 93, .c (.b true), .t 97], none⟩,
   ⟨(some 99), .mv, [.t 98], none⟩,
   ⟨(some 100), .mv, [.t 15], (some (99, false))⟩,
   ⟨(some 101), .mv, [.t 12], (some (99, false))⟩,
   ⟨(some 102), (.eqB true), [.t 100, .t 101], (some (99, false))⟩,
   ⟨(some 103), .pick, [.t 99, .c (.b true), .t 102], none⟩] [0, 1, 7, 8, 11, 12, 14, 17, 103])
 (.cond (.t 103)
  (.seq (.reg [⟨(some 6), .mv, [.c (.b false)], none⟩] [6])
  .ret)
  .skip))
 (.seq (.seq (.reg [⟨(some 104), .mv, [.t 12], none⟩,
   ⟨(some 105), .notB, [.t 104], none⟩] [0, 1, 7, 8, 11, 14, 17, 105])
 (.cond (.t 105)
  (.seq (.reg [⟨(some 106), .mv, [.t 11], none⟩,
    ⟨(some 107), (.binI .eql), [.t 106, .c (.i .i64 0)], none⟩,
    ⟨(some 108), .mv, [.t 107], none⟩,
    ⟨(some 109), .mv, [.t 14], (some (108, true))⟩,
    ⟨(some 110), (.len 0), [.t 109], (some (108, true))⟩,
    ⟨(some 111), (.binI .eql), [.t 110, .c (.i .i64 0)], (some (108, true))⟩,
    ⟨(some 112), .pick, [.t 108, .t 111, .c (.b false)], none⟩,
    ⟨(some 113), .mv, [.t 112], none⟩,
    ⟨(some 114), (.call (.pu [])), [.c (.fn 25 [] [])], (some (113, true))⟩,
    ⟨(some 115), .pick, [.t 113, .t 114, .c (.b false)], none⟩,
    ⟨(some 6), .mv, [.t 115], none⟩] [6])
  .ret)
  .skip))
 (.seq (.reg [⟨(some 116), .mv, [.t 11], none⟩,
   ⟨(some 117), .mv, [.t 17], none⟩,
   ⟨(some 118), (.binI .eql), [.t 116, .t 117], none⟩,
   ⟨(some 119), .mv, [.t 118], none⟩,
   ⟨(some 120), .mv, [.t 14], (some (119, true))⟩,
   ⟨(some 121), (.len 0), [.t 120], (some (119, true))⟩,
   ⟨(some 122), .mv, [.t 11], (some (119, true))⟩,
   ⟨(some 123), (.binI .add), [.t 122, .c (.i .i64 1)], (some (119, true))⟩,
   ⟨(some 124), (.binI .eql), [.t 121, .t 123], (some (119, true))⟩,
   ⟨(some 125), .pick, [.t 119, .t 124, .c (.b false)], none⟩,
   ⟨(some 126), .mv, [.t 125], none⟩,
   ⟨(some 127), .mv, [.t 0], (some (126, true))⟩,
   ⟨(some 128), .mv, [.t 1], (some (126, true))⟩,
   ⟨(some 129), .mv, [.t 14], (some (126, true))⟩,
   ⟨(some 130), (.call (.pu [])), [.c (.fn 34 [] []), .t 127, .t 128, .t 129], (some (126, true))⟩,
   ⟨(some 131), .pick, [.t 126, .t 130, .c (.b false)], none⟩,
   ⟨(some 132), .mv, [.t 131], none⟩,
   ⟨(some 133), .mv, [.t 14], (some (132, true))⟩,
   ⟨(some 134), (.ixS 1 false), [.t 133, .c (.i .i64 0)], (some (132, true))⟩,
   ⟨(some 135), (.ld 1 false), [.t 134], (some (132, true))⟩,
   ⟨(some 136), .mv, [.t 7], (some (132, true))⟩,
   ⟨(some 137), (.binI .eql), [.t 135, .t 136], (some (132, true))⟩,
   ⟨(some 138), .pick, [.t 132, .t 137, .c (.b false)], none⟩,
   ⟨(some 139), .mv, [.t 138], none⟩,
   ⟨(some 140), .mv, [.t 14], (some (139, true))⟩,
   ⟨(some 141), .mv, [.t 11], (some (139, true))⟩,
   ⟨(some 142), (.ixS 1 false), [.t 140, .t 141], (some (139, true))⟩,
   ⟨(some 143), (.ld 1 false), [.t 142], (some (139, true))⟩,
   ⟨(some 144), .mv, [.t 8], (some (139, true))⟩,
   ⟨(some 145), (.binI .eql), [.t 143, .t 144], (some (139, true))⟩,
   ⟨(some 146), .pick, [.t 139, .t 145, .c (.b false)], none⟩,
   ⟨(some 147), .mv, [.t 146], none⟩,
   ⟨(some 148), (.call (.pu [])), [.c (.fn 25 [] [])], (some (147, true))⟩,
   ⟨(some 149), .pick, [.t 147, .t 148, .c (.b false)], none⟩,
   ⟨(some 6), .mv, [.t 149], none⟩] [6])
 .ret))))))))))

def b7_0 : DC :=
 (.seq (.seq (.reg [⟨(some 76), .mv, [.t 11], none⟩,
   ⟨(some 77), (.binI .lss), [.t 76, .c (.i .i64 2)], none⟩] [0, 1, 2, 10, 11, 77])
 (.cond (.t 77)
  .skip
  (.exit 0)))
 (.seq (.block 1
  (.seq (.reg [⟨(some 81), .mv, [.t 0], none⟩,
    ⟨(some 82), .mv, [.t 1], none⟩,
    ⟨(some 83), .mv, [.t 10], none⟩,
    ⟨(some 84), (.call (.pu [])), [.c (.fn 38 [] []), .t 81, .t 82, .t 83], none⟩,
    ⟨(some 80), .mv, [.t 84], none⟩,
    ⟨(some 85), (.ext 0), [.t 80], none⟩,
    ⟨(some 86), (.ext 1), [.t 80], none⟩,
    ⟨(some 12), .mv, [.t 85], none⟩,
    ⟨(some 13), .mv, [.t 86], none⟩] [0, 1, 2, 10, 11, 12, 13])
  (.seq (.reg [⟨(some 88), .mv, [.t 0], none⟩,
    ⟨(some 89), .mv, [.t 1], none⟩,
    ⟨(some 90), .mv, [.t 10], none⟩,
    ⟨(some 91), (.call (.pu [])), [.c (.fn 39 [] []), .t 88, .t 89, .t 90], none⟩,
    ⟨(some 87), .mv, [.t 91], none⟩,
    ⟨(some 92), (.ext 0), [.t 87], none⟩,
    ⟨(some 93), (.ext 1), [.t 87], none⟩,
    ⟨(some 14), .mv, [.t 92], none⟩,
    ⟨(some 15), .mv, [.t 93], none⟩] [0, 1, 2, 10, 11, 12, 13, 14, 15])
  (.seq (.seq (.reg [⟨(some 94), .mv, [.t 13], none⟩,
    ⟨(some 95), (.binI .neq), [.t 94, .c (.i .i64 0)], none⟩,
    ⟨(some 96), .mv, [.t 95], none⟩,
    ⟨(some 97), .mv, [.t 15], (some (96, false))⟩,
    ⟨(some 98), (.binI .neq), [.t 97, .c (.i .i64 0)], (some (96, false))⟩,
    ⟨(some 99), .pick, [.t 96, .c (.b true), .t 98], none⟩,
    ⟨(some 100), .mv, [.t 99], none⟩,
    ⟨(some 101), .mv, [.t 12], (some (100, false))⟩,
    ⟨(some 102), .mv, [.t 0], (some (100, false))⟩,
    ⟨(some 103), .mv, [.t 1], (some (100, false))⟩,
    ⟨(some 104), .mv, [.t 10], (some (100, false))⟩,
    ⟨(some 105), (.call (.pu [])), [.c (.fn 37 [] []), .t 102, .t 103, .t 104], (some (100, false))⟩,
    ⟨(some 106), (.eqB true), [.t 101, .t 105], (some (100, false))⟩,
    ⟨(some 107), .pick, [.t 100, .c (.b true), .t 106], none⟩,
    ⟨(some 108), .mv, [.t 107], none⟩,
    ⟨(some 109), .mv, [.t 14], (some (108, false))⟩,
    ⟨(some 110), .mv, [.t 0], (some (108, false))⟩,
    ⟨(some 111), .mv, [.t 1], (some (108, false))⟩,
    ⟨(some 112), .mv, [.t 10], (some (108, false))⟩,
    ⟨(some 113), (.call (.pu [])), [.c (.fn 40 [] []), .t 110, .t 111, .t 112], (some (108, false))⟩,
    ⟨(some 114), (.eqB true), [.t 109, .t 113], (some (108, false))⟩,
    ⟨(some 115), .pick, [.t 108, .c (.b true), .t 114], none⟩] [0, 1, 2, 10, 11, 115])
  (.cond (.t 115)
   (.seq (.reg [⟨(some 6), .mv, [.c (.b false)], none⟩] [6])
   .ret)
   .skip))
  (.reg [⟨(some 116), .mv, [.t 10], none⟩,
    ⟨(some 117), .mv, [.t 0], none⟩,
    ⟨(some 118), .mv, [.t 1], none⟩,
    ⟨(some 119), .mv, [.t 2], none⟩,
    ⟨(some 120), (.conv .u64), [.t 119], none⟩,
    ⟨(some 121), (.binI .rem), [.t 120, .c (.i .u64 2)], none⟩,
    ⟨(some 122), (.conv .i64), [.t 121], none⟩,
    ⟨(some 123), (.call (.pu [])), [.c (.fn 41 [] []), .t 117, .t 118, .t 122], none⟩,
    ⟨(some 124), (.binI .and), [.t 116, .t 123], none⟩,
    ⟨(some 10), .mv, [.t 124], none⟩] [0, 1, 2, 10, 11])))))
 (.reg [⟨(some 78), .mv, [.t 11], none⟩,
   ⟨(some 79), (.binI .add), [.t 78, .c (.i .i64 1)], none⟩,
   ⟨(some 11), .mv, [.t 79], none⟩] [0, 1, 2, 10, 11])))

def l7_1 : DC :=
 (.loop [0, 1, 2, 10, 11] b7_0)

def c7 : DC :=
 (.seq (.reg [⟨(some 6), .mv, [.c (.b false)], none⟩] [0, 1, 2])
 (.seq (.reg [⟨(some 17), .mv, [.t 0], none⟩,
   ⟨(some 18), .mv, [.t 1], none⟩,
   ⟨(some 19), (.call (.pu [])), [.c (.fn 18 [] []), .t 17, .t 18], none⟩,
   ⟨(some 16), .mv, [.t 19], none⟩,
   ⟨(some 20), (.ext 0), [.t 16], none⟩,
   ⟨(some 21), (.ext 1), [.t 16], none⟩,
   ⟨(some 0), .mv, [.t 20], none⟩,
   ⟨(some 1), .mv, [.t 21], none⟩] [0, 1, 2])
 (.seq (.reg [⟨(some 23), .mv, [.t 0], none⟩,
   ⟨(some 24), .mv, [.t 1], none⟩,
   ⟨(some 25), (.call (.pu [])), [.c (.fn 35 [] []), .t 23, .t 24], none⟩,
   ⟨(some 22), .mv, [.t 25], none⟩,
   ⟨(some 26), (.ext 0), [.t 22], none⟩,
   ⟨(some 27), (.ext 1), [.t 22], none⟩,
   ⟨(some 28), (.ext 2), [.t 22], none⟩,
   ⟨(some 7), .mv, [.t 26], none⟩,
   ⟨(some 8), .mv, [.t 27], none⟩,
   ⟨(some 9), .mv, [.t 28], none⟩] [0, 1, 2, 7, 8, 9])
 (.seq (.seq (.reg [⟨(some 29), .mv, [.t 9], none⟩,
   ⟨(some 30), (.binI .neq), [.t 29, .c (.i .i64 0)], none⟩,
   ⟨(some 31), .mv, [.t 30], none⟩,
   ⟨(some 32), .mv, [.t 8], (some (31, false))⟩,
   ⟨(some 33), .mv, [.t 0], (some (31, false))⟩,
   ⟨(some 34), .mv, [.t 1], (some (31, false))⟩,
   ⟨(some 35), (.call (.pu [])), [.c (.fn 36 [] []), .t 33, .t 34], (some (31, false))⟩,
   ⟨(some 36), (.eqB true), [.t 32, .t 35], (some (31, false))⟩,
   ⟨(some 37), .pick, [.t 31, .c (.b true), .t 36], none⟩,
   ⟨(some 38), .mv, [.t 37], none⟩,
   ⟨(some 39), .mv, [.t 8], (some (38, false))⟩,
   ⟨(some 40), .notB, [.t 39], (some (38, false))⟩,
   ⟨(some 41), .mv, [.t 40], (some (38, false))⟩,
   ⟨(some 42), .mv, [.t 7], (some (41, true))⟩,
   ⟨(some 43), (.binI .neq), [.t 42, .c (.i .i64 0)], (some (41, true))⟩,
   ⟨(some 44), .pick, [.t 41, .t 43, .c (.b false)], (some (38, false))⟩,
   ⟨(some 45), .pick, [.t 38, .c (.b true), .t 44], none⟩,
   ⟨(some 46), .mv, [.t 45], none⟩,
   ⟨(some 47), .mv, [.t 8], (some (46, false))⟩,
   ⟨(some 48), .mv, [.t 47], (some (46, false))⟩,
   ⟨(some 49), .mv, [.t 7], (some (48, true))⟩,
   ⟨(some 50), (.binI .lss), [.t 49, .c (.i .i64 0)], (some (48, true))⟩,
   ⟨(some 51), .mv, [.t 50], (some (48, true))⟩,
   ⟨(some 52), .mv, [.t 7], (some (51, false))⟩,
   ⟨(some 53), .mv, [.t 0], (some (51, false))⟩,
   ⟨(some 54), .mv, [.t 1], (some (51, false))⟩,
   ⟨(some 55), (.binI .mul), [.t 53, .t 54], (some (51, false))⟩,
   ⟨(some 56), (.binI .shl), [.c (.i .i64 1), .t 55], (some (51, false))⟩,
   ⟨(some 57), (.binI .geq), [.t 52, .t 56], (some (51, false))⟩,
   ⟨(some 58), .pick, [.t 51, .c (.b true), .t 57], (some (48, true))⟩,
   ⟨(some 59), .mv, [.t 58], (some (48, true))⟩,
   ⟨(some 60), .mv, [.t 0], (some (59, false))⟩,
   ⟨(some 61), .mv, [.t 1], (some (59, false))⟩,
   ⟨(some 62), .mv, [.t 7], (some (59, false))⟩,
   ⟨(some 63), (.call (.pu [])), [.c (.fn 37 [] []), .t 60, .t 61, .t 62], (some (59, false))⟩,
   ⟨(some 64), .notB, [.t 63], (some (59, false))⟩,
   ⟨(some 65), .pick, [.t 59, .c (.b true), .t 64], (some (48, true))⟩,
   ⟨(some 66), .pick, [.t 48, .t 65, .c (.b false)], (some (46, false))⟩,
   ⟨(some 67), .pick, [.t 46, .c (.b true), .t 66], none⟩] [0, 1, 2, 67])
 (.cond (.t 67)
  (.seq (.reg [⟨(some 6), .mv, [.c (.b false)], none⟩] [6])
  .ret)
  .skip))
 (.seq (.reg [⟨(some 68), .mv, [.t 2], none⟩,
   ⟨(some 69), (.conv .u64), [.t 68], none⟩,
   ⟨(some 70), .mv, [.t 0], none⟩,
   ⟨(some 71), .mv, [.t 1], none⟩,
   ⟨(some 72), (.binI .mul), [.t 70, .t 71], none⟩,
   ⟨(some 73), (.binI .shl), [.c (.i .u64 1), .t 72], none⟩,
   ⟨(some 74), (.binI .rem), [.t 69, .t 73], none⟩,
   ⟨(some 75), (.conv .i64), [.t 74], none⟩,
   ⟨(some 10), .mv, [.t 75], none⟩] [0, 1, 2, 10])
 (.seq (.seq (.reg [⟨(some 11), .mv, [.c (.i .i64 0)], none⟩] [0, 1, 2, 10, 11])
 (.block 0
  l7_1))
 (.seq (.reg [⟨(some 125), (.call (.pu [])), [.c (.fn 25 [] [])], none⟩,
   ⟨(some 6), .mv, [.t 125], none⟩] [6])
 .ret)))))))

def b8_0 : DC :=
 (.seq (.seq (.reg [⟨(some 29), .mv, [.t 9], none⟩,
   ⟨(some 30), (.binI .lss), [.t 29, .c (.i .i64 2)], none⟩] [0, 1, 7, 8, 9, 30])
 (.cond (.t 30)
  .skip
  (.exit 0)))
 (.seq (.block 1
  (.seq (.reg [⟨(some 34), .mv, [.t 0], none⟩,
    ⟨(some 35), .mv, [.t 1], none⟩,
    ⟨(some 36), .mv, [.t 7], none⟩,
    ⟨(some 37), .mv, [.t 8], none⟩,
    ⟨(some 38), (.call (.pu [])), [.c (.fn 42 [] []), .t 34, .t 35, .t 36, .t 37], none⟩,
    ⟨(some 33), .mv, [.t 38], none⟩,
    ⟨(some 39), (.ext 0), [.t 33], none⟩,
    ⟨(some 40), (.ext 1), [.t 33], none⟩,
    ⟨(some 10), .mv, [.t 39], none⟩,
    ⟨(some 11), .mv, [.t 40], none⟩] [0, 1, 7, 8, 9, 10, 11])
  (.seq (.seq (.reg [⟨(some 41), .mv, [.t 8], none⟩,
    ⟨(some 42), (.binI .lss), [.t 41, .c (.i .i64 0)], none⟩,
    ⟨(some 43), .mv, [.t 42], none⟩,
    ⟨(some 44), .mv, [.t 8], (some (43, false))⟩,
    ⟨(some 45), (.binI .gtr), [.t 44, .c (.i .i64 40)], (some (43, false))⟩,
    ⟨(some 46), .pick, [.t 43, .c (.b true), .t 45], none⟩] [0, 1, 7, 8, 9, 10, 11, 46])
  (.cond (.t 46)
   (.seq (.reg [⟨(some 47), .mv, [.t 11], none⟩,
     ⟨(some 48), (.binI .neq), [.t 47, .c (.i .i64 1)], none⟩,
     ⟨(some 49), .mv, [.t 48], none⟩,
     ⟨(some 50), .mv, [.t 10], (some (49, false))⟩,
     ⟨(some 51), (.len 0), [.t 50], (some (49, false))⟩,
     ⟨(some 52), (.binI .neq), [.t 51, .c (.i .i64 0)], (some (49, false))⟩,
     ⟨(some 53), .pick, [.t 49, .c (.b true), .t 52], none⟩] [0, 1, 7, 8, 9, 53])
   (.cond (.t 53)
    (.seq (.reg [⟨(some 6), .mv, [.c (.b false)], none⟩] [6])
    .ret)
    .skip))
   (.seq (.reg [⟨(some 54), .mv, [.t 11], none⟩,
     ⟨(some 55), (.binI .neq), [.t 54, .c (.i .i64 0)], none⟩,
     ⟨(some 56), .mv, [.t 55], none⟩,
     ⟨(some 57), .mv, [.t 10], (some (56, false))⟩,
     ⟨(some 58), .mv, [.t 0], (some (56, false))⟩,
     ⟨(some 59), .mv, [.t 1], (some (56, false))⟩,
     ⟨(some 60), .mv, [.t 7], (some (56, false))⟩,
     ⟨(some 61), .mv, [.t 8], (some (56, false))⟩,
     ⟨(some 62), (.call (.pu [])), [.c (.fn 43 [] []), .t 58, .t 59, .t 60, .t 61], (some (56, false))⟩,
     ⟨(some 63), (.call (.pu [])), [.c (.fn 32 [] []), .t 57, .t 62], (some (56, false))⟩,
     ⟨(some 64), .notB, [.t 63], (some (56, false))⟩,
     ⟨(some 65), .pick, [.t 56, .c (.b true), .t 64], none⟩] [0, 1, 7, 8, 9, 65])
   (.cond (.t 65)
    (.seq (.reg [⟨(some 6), .mv, [.c (.b false)], none⟩] [6])
    .ret)
    .skip))))
  (.reg [⟨(some 66), .mv, [.t 8], none⟩,
    ⟨(some 67), (.conv .u64), [.t 66], none⟩,
    ⟨(some 68), (.binI .rem), [.t 67, .c (.i .u64 6)], none⟩,
    ⟨(some 69), (.conv .i64), [.t 68], none⟩,
    ⟨(some 8), .mv, [.t 69], none⟩] [0, 1, 7, 8, 9]))))
 (.reg [⟨(some 31), .mv, [.t 9], none⟩,
   ⟨(some 32), (.binI .add), [.t 31, .c (.i .i64 1)], none⟩,
   ⟨(some 9), .mv, [.t 32], none⟩] [0, 1, 7, 8, 9])))

def l8_1 : DC :=
 (.loop [0, 1, 7, 8, 9] b8_0)

def c8 : DC :=
 (.seq (.reg [⟨(some 5), (.box true), [.t 2], none⟩,
   ⟨(some 6), .mv, [.c (.b false)], none⟩] [0, 1, 5])
 (.seq (.reg [⟨(some 13), .mv, [.t 0], none⟩,
   ⟨(some 14), .mv, [.t 1], none⟩,
   ⟨(some 15), (.call (.pu [])), [.c (.fn 18 [] []), .t 13, .t 14], none⟩,
   ⟨(some 12), .mv, [.t 15], none⟩,
   ⟨(some 16), (.ext 0), [.t 12], none⟩,
   ⟨(some 17), (.ext 1), [.t 12], none⟩,
   ⟨(some 0), .mv, [.t 16], none⟩,
   ⟨(some 1), .mv, [.t 17], none⟩] [0, 1, 5])
 (.seq (.reg [⟨(some 18), (.ixA 2 1 false), [.t 5, .c (.i .i64 0)], none⟩,
   ⟨(some 19), (.ld 1 false), [.t 18], none⟩,
   ⟨(some 20), (.conv .u64), [.t 19], none⟩,
   ⟨(some 21), .mv, [.t 0], none⟩,
   ⟨(some 22), .mv, [.t 1], none⟩,
   ⟨(some 23), (.binI .mul), [.t 21, .t 22], none⟩,
   ⟨(some 24), (.conv .u64), [.t 23], none⟩,
   ⟨(some 25), (.binI .rem), [.t 20, .t 24], none⟩,
   ⟨(some 26), (.conv .i64), [.t 25], none⟩,
   ⟨(some 7), .mv, [.t 26], none⟩] [0, 1, 5, 7])
 (.seq (.reg [⟨(some 27), (.ixA 2 1 false), [.t 5, .c (.i .i64 1)], none⟩,
   ⟨(some 28), (.ld 1 false), [.t 27], none⟩,
   ⟨(some 8), .mv, [.t 28], none⟩] [0, 1, 7, 8])
 (.seq (.seq (.reg [⟨(some 9), .mv, [.c (.i .i64 0)], none⟩] [0, 1, 7, 8, 9])
 (.block 0
  l8_1))
 (.seq (.reg [⟨(some 70), (.call (.pu [])), [.c (.fn 25 [] [])], none⟩,
   ⟨(some 6), .mv, [.t 70], none⟩] [6])
 .ret))))))

def b9_0 : DC :=
 (.seq (.seq (.reg [⟨(some 182), .mv, [.t 24], none⟩,
   ⟨(some 183), .mv, [.t 22], none⟩,
   ⟨(some 184), (.len 0), [.t 183], none⟩,
   ⟨(some 185), (.binI .lss), [.t 182, .t 184], none⟩,
   ⟨(some 186), .mv, [.t 185], none⟩,
   ⟨(some 187), .mv, [.t 24], (some (186, true))⟩,
   ⟨(some 188), (.binI .lss), [.t 187, .c (.i .i64 8)], (some (186, true))⟩,
   ⟨(some 189), .pick, [.t 186, .t 188, .c (.b false)], none⟩] [0, 1, 7, 8, 10, 22, 23, 24, 189])
 (.cond (.t 189)
  .skip
  (.exit 0)))
 (.seq (.block 1
  (.seq (.reg [⟨(some 193), .mv, [.t 0], none⟩,
    ⟨(some 194), .mv, [.t 1], none⟩,
    ⟨(some 195), .mv, [.t 7], none⟩,
    ⟨(some 196), .mv, [.t 22], none⟩,
    ⟨(some 197), .mv, [.t 24], none⟩,
    ⟨(some 198), (.ixS 1 false), [.t 196, .t 197], none⟩,
    ⟨(some 199), (.ld 1 false), [.t 198], none⟩,
    ⟨(some 200), (.call (.pu [])), [.c (.fn 29 [] []), .t 193, .t 194, .t 195, .t 199], none⟩,
    ⟨(some 192), .mv, [.t 200], none⟩,
    ⟨(some 201), (.ext 0), [.t 192], none⟩,
    ⟨(some 202), (.ext 1), [.t 192], none⟩,
    ⟨(some 203), (.ext 2), [.t 192], none⟩,
    ⟨(some 25), .mv, [.t 201], none⟩,
    ⟨(some 26), .mv, [.t 202], none⟩,
    ⟨(some 27), .mv, [.t 203], none⟩] [0, 1, 7, 8, 10, 22, 23, 24, 25, 26, 27])
  (.seq (.reg [⟨(some 204), .mv, [.t 27], none⟩,
    ⟨(some 205), (.binI .neq), [.t 204, .c (.i .i64 0)], none⟩,
    ⟨(some 206), .mv, [.t 205], none⟩,
    ⟨(some 207), .mv, [.t 26], (some (206, false))⟩,
    ⟨(some 208), .notB, [.t 207], (some (206, false))⟩,
    ⟨(some 209), .pick, [.t 206, .c (.b true), .t 208], none⟩,
    ⟨(some 210), .mv, [.t 209], none⟩,
    ⟨(some 211), .mv, [.t 25], (some (210, false))⟩,
    ⟨(some 212), .mv, [.t 10], (some (210, false))⟩,
    ⟨(some 213), (.binI .add), [.t 212, .c (.i .i64 1)], (some (210, false))⟩,
    ⟨(some 214), (.binI .neq), [.t 211, .t 213], (some (210, false))⟩,
    ⟨(some 215), .mv, [.t 214], (some (210, false))⟩,
    ⟨(some 216), .mv, [.t 25], (some (215, true))⟩,
    ⟨(some 217), .mv, [.t 10], (some (215, true))⟩,
    ⟨(some 218), (.binI .sub), [.t 217, .c (.i .i64 1)], (some (215, true))⟩,
    ⟨(some 219), (.binI .neq), [.t 216, .t 218], (some (215, true))⟩,
    ⟨(some 220), .pick, [.t 215, .t 219, .c (.b false)], (some (210, false))⟩,
    ⟨(some 221), .pick, [.t 210, .c (.b true), .t 220], none⟩] [0, 1, 7, 8, 10, 22, 23, 24, 221])
  (.cond (.t 221)
   (.seq (.reg [⟨(some 6), .mv, [.c (.b false)], none⟩] [6])
   .ret)
   .skip))))
 (.reg [⟨(some 190), .mv, [.t 24], none⟩,
   ⟨(some 191), (.binI .add), [.t 190, .c (.i .i64 1)], none⟩,
   ⟨(some 24), .mv, [.t 191], none⟩] [0, 1, 7, 8, 10, 22, 23, 24])))

def l9_1 : DC :=
 (.loop [0, 1, 7, 8, 10, 22, 23, 24] b9_0)

def b9_2 : DC :=
 (.seq (.seq (.reg [⟨(some 230), .mv, [.t 31], none⟩,
   ⟨(some 231), .mv, [.t 28], none⟩,
   ⟨(some 232), (.len 0), [.t 231], none⟩,
   ⟨(some 233), (.binI .lss), [.t 230, .t 232], none⟩] [8, 23, 28, 29, 30, 31, 233])
 (.cond (.t 233)
  .skip
  (.exit 2)))
 (.seq (.block 3
  (.reg [⟨(some 236), .mv, [.t 30], none⟩,
    ⟨(some 237), .mv, [.t 236], none⟩,
    ⟨(some 238), .mv, [.t 28], (some (237, false))⟩,
    ⟨(some 239), .mv, [.t 31], (some (237, false))⟩,
    ⟨(some 240), (.ixS 1 false), [.t 238, .t 239], (some (237, false))⟩,
    ⟨(some 241), (.ld 1 false), [.t 240], (some (237, false))⟩,
    ⟨(some 242), .mv, [.t 8], (some (237, false))⟩,
    ⟨(some 243), (.binI .eql), [.t 241, .t 242], (some (237, false))⟩,
    ⟨(some 244), .pick, [.t 237, .c (.b true), .t 243], none⟩,
    ⟨(some 30), .mv, [.t 244], none⟩] [8, 23, 28, 29, 30, 31]))
 (.reg [⟨(some 234), .mv, [.t 31], none⟩,
   ⟨(some 235), (.binI .add), [.t 234, .c (.i .i64 1)], none⟩,
   ⟨(some 31), .mv, [.t 235], none⟩] [8, 23, 28, 29, 30, 31])))

def l9_3 : DC :=
 (.loop [8, 23, 28, 29, 30, 31] b9_2)

def c9 : DC :=
 (.seq (.reg [⟨(some 5), (.box true), [.t 2], none⟩,
   ⟨(some 6), .mv, [.c (.b false)], none⟩] [0, 1, 5])
 (.seq (.reg [⟨(some 33), .mv, [.t 0], none⟩,
   ⟨(some 34), .mv, [.t 1], none⟩,
   ⟨(some 35), (.call (.pu [])), [.c (.fn 18 [] []), .t 33, .t 34], none⟩,
   ⟨(some 32), .mv, [.t 35], none⟩,
   ⟨(some 36), (.ext 0), [.t 32], none⟩,
   ⟨(some 37), (.ext 1), [.t 32], none⟩,
   ⟨(some 0), .mv, [.t 36], none⟩,
   ⟨(some 1), .mv, [.t 37], none⟩] [0, 1, 5])
 (.seq (.reg [⟨(some 38), (.ixA 3 1 false), [.t 5, .c (.i .i64 0)], none⟩,
   ⟨(some 39), (.ld 1 false), [.t 38], none⟩,
   ⟨(some 40), (.conv .u64), [.t 39], none⟩,
   ⟨(some 41), .mv, [.t 0], none⟩,
   ⟨(some 42), .mv, [.t 1], none⟩,
   ⟨(some 43), (.binI .mul), [.t 41, .t 42], none⟩,
   ⟨(some 44), (.conv .u64), [.t 43], none⟩,
   ⟨(some 45), (.binI .rem), [.t 40, .t 44], none⟩,
   ⟨(some 46), (.conv .i64), [.t 45], none⟩,
   ⟨(some 47), (.ixA 3 1 false), [.t 5, .c (.i .i64 1)], none⟩,
   ⟨(some 48), (.ld 1 false), [.t 47], none⟩,
   ⟨(some 49), (.conv .u64), [.t 48], none⟩,
   ⟨(some 50), .mv, [.t 0], none⟩,
   ⟨(some 51), .mv, [.t 1], none⟩,
   ⟨(some 52), (.binI .mul), [.t 50, .t 51], none⟩,
   ⟨(some 53), (.conv .u64), [.t 52], none⟩,
   ⟨(some 54), (.binI .rem), [.t 49, .t 53], none⟩,
   ⟨(some 55), (.conv .i64), [.t 54], none⟩,
   ⟨(some 56), (.ixA 3 1 false), [.t 5, .c (.i .i64 2)], none⟩,
   ⟨(some 57), (.ld 1 false), [.t 56], none⟩,
   ⟨(some 58), (.conv .u64), [.t 57], none⟩,
   ⟨(some 59), .mv, [.t 0], none⟩,
   ⟨(some 60), .mv, [.t 1], none⟩,
   ⟨(some 61), (.binI .mul), [.t 59, .t 60], none⟩,
   ⟨(some 62), (.conv .u64), [.t 61], none⟩,
   ⟨(some 63), (.binI .rem), [.t 58, .t 62], none⟩,
   ⟨(some 64), (.conv .i64), [.t 63], none⟩,
   ⟨(some 7), .mv, [.t 46], none⟩,
   ⟨(some 8), .mv, [.t 55], none⟩,
   ⟨(some 9), .mv, [.t 64], none⟩] [0, 1, 7, 8, 9])
 (.seq (.reg [⟨(some 66), .mv, [.t 0], none⟩,
   ⟨(some 67), .mv, [.t 1], none⟩,
   ⟨(some 68), .mv, [.t 7], none⟩,
   ⟨(some 69), .mv, [.t 8], none⟩,
   ⟨(some 70), (.call (.pu [])), [.c (.fn 29 [] []), .t 66, .t 67, .t 68, .t 69], none⟩,
   ⟨(some 65), .mv, [.t 70], none⟩,
   ⟨(some 71), (.ext 0), [.t 65], none⟩,
   ⟨(some 72), (.ext 1), [.t 65], none⟩,
   ⟨(some 73), (.ext 2), [.t 65], none⟩,
   ⟨(some 10), .mv, [.t 71], none⟩,
   ⟨(some 11), .mv, [.t 72], none⟩,
   ⟨(some 12), .mv, [.t 73], none⟩] [0, 1, 7, 8, 9, 10, 11, 12])
 (.seq (.reg [⟨(some 75), .mv, [.t 0], none⟩,
   ⟨(some 76), .mv, [.t 1], none⟩,
   ⟨(some 77), .mv, [.t 8], none⟩,
   ⟨(some 78), .mv, [.t 7], none⟩,
   ⟨(some 79), (.call (.pu [])), [.c (.fn 29 [] []), .t 75, .t 76, .t 77, .t 78], none⟩,
   ⟨(some 74), .mv, [.t 79], none⟩,
   ⟨(some 80), (.ext 0), [.t 74], none⟩,
   ⟨(some 81), (.ext 1), [.t 74], none⟩,
   ⟨(some 82), (.ext 2), [.t 74], none⟩,
   ⟨(some 13), .mv, [.t 80], none⟩,
   ⟨(some 14), .mv, [.t 81], none⟩,
   ⟨(some 15), .mv, [.t 82], none⟩] [0, 1, 7, 8, 9, 10, 11, 12, 13, 14, 15])
 (.seq (.reg [⟨(some 84), .mv, [.t 0], none⟩,
   ⟨(some 85), .mv, [.t 1], none⟩,
   ⟨(some 86), .mv, [.t 7], none⟩,
   ⟨(some 87), .mv, [.t 9], none⟩,
   ⟨(some 88), (.call (.pu [])), [.c (.fn 29 [] []), .t 84, .t 85, .t 86, .t 87], none⟩,
   ⟨(some 83), .mv, [.t 88], none⟩,
   ⟨(some 89), (.ext 0), [.t 83], none⟩,
   ⟨(some 90), (.ext 1), [.t 83], none⟩,
   ⟨(some 91), (.ext 2), [.t 83], none⟩,
   ⟨(some 16), .mv, [.t 89], none⟩,
   ⟨(some 17), .mv, [.t 90], none⟩,
   ⟨(some 18), .mv, [.t 91], none⟩] [0, 1, 7, 8, 9, 10, 11, 12, 13, 14, 15, 16, 17, 18])
 (.seq (.reg [⟨(some 93), .mv, [.t 0], none⟩,
   ⟨(some 94), .mv, [.t 1], none⟩,
   ⟨(some 95), .mv, [.t 9], none⟩,
   ⟨(some 96), .mv, [.t 8], none⟩,
   ⟨(some 97), (.call (.pu [])), [.c (.fn 29 [] []), .t 93, .t 94, .t 95, .t 96], none⟩,
   ⟨(some 92), .mv, [.t 97], none⟩,
   ⟨(some 98), (.ext 0), [.t 92], none⟩,
   ⟨(some 99), (.ext 1), [.t 92], none⟩,
   ⟨(some 100), (.ext 2), [.t 92], none⟩,
   ⟨(some 19), .mv, [.t 98], none⟩,
   ⟨(some 20), .mv, [.t 99], none⟩,
   ⟨(some 21), .mv, [.t 100], none⟩] [0, 1, 7, 8, 10, 11, 12, 13, 14, 15, 16, 17, 18, 19, 20, 21])
 (.seq (.seq (.reg [⟨(some 101), .mv, [.t 12], none⟩,
   ⟨(some 102), (.binI .neq), [.t 101, .c (.i .i64 0)], none⟩,
   ⟨(some 103), .mv, [.t 102], none⟩,
   ⟨(some 104), .mv, [.t 15], (some (103, false))⟩,
   ⟨(some 105), (.binI .neq), [.t 104, .c (.i .i64 0)], (some (103, false))⟩,
   ⟨(some 106), .pick, [.t 103, .c (.b true), .t 105], none⟩,
   ⟨(some 107), .mv, [.t 106], none⟩,
   ⟨(some 108), .mv, [.t 18], (some (107, false))⟩,
   ⟨(some 109), (.binI .neq), [.t 108, .c (.i .i64 0)], (some (107, false))⟩,
   ⟨(some 110), .pick, [.t 107, .c (.b true), .t 109], none⟩,
   ⟨(some 111), .mv, [.t 110], none⟩,
   ⟨(some 112), .mv, [.t 21], (some (111, false))⟩,
   ⟨(some 113), (.binI .neq), [.t 112, .c (.i .i64 0)], (some (111, false))⟩,
   ⟨(some 114), .pick, [.t 111, .c (.b true), .t 113], none⟩,
   ⟨(some 115), .mv, [.t 114], none⟩,
   ⟨(some 116), .mv, [.t 11], (some (115, false))⟩,
   ⟨(some 117), .mv, [.t 14], (some (115, false))⟩,
   ⟨(some 118), (.eqB true), [.t 116, .t 117], (some (115, false))⟩,
   ⟨(some 119), .pick, [.t 115, .c (.b true), .t 118], none⟩,
   ⟨(some 120), .mv, [.t 119], none⟩,
   ⟨(some 121), .mv, [.t 10], (some (120, false))⟩,
   ⟨(some 122), .mv, [.t 13], (some (120, false))⟩,
   ⟨(some 123), (.binI .neq), [.t 121, .t 122], (some (120, false))⟩,
   ⟨(some 124), .pick, [.t 120, .c (.b true), .t 123], none⟩,
   ⟨(some 125), .mv, [.t 124], none⟩,
   ⟨(some 126), .mv, [.t 17], (some (125, false))⟩,
   ⟨(some 127), .mv, [.t 126], (some (125, false))⟩,
   ⟨(some 128), .mv, [.t 20], (some (127, true))⟩,
   ⟨(some 129), .pick, [.t 127, .t 128, .c (.b false)], (some (125, false))⟩,
   ⟨(some 130), .mv, [.t 129], (some (125, false))⟩,
   ⟨(some 131), .mv, [.t 11], (some (130, true))⟩,
   ⟨(some 132), .notB, [.t 131], (some (130, true))⟩,
   ⟨(some 133), .mv, [.t 132], (some (130, true))⟩,
   ⟨(some 134), .mv, [.t 10], (some (133, false))⟩,
   ⟨(some 135), .mv, [.t 16], (some (133, false))⟩,
   ⟨(some 136), .mv, [.t 19], (some (133, false))⟩,
   ⟨(some 137), (.binI .add), [.t 135, .t 136], (some (133, false))⟩,
   ⟨(some 138), (.binI .gtr), [.t 134, .t 137], (some (133, false))⟩,
   ⟨(some 139), .pick, [.t 133, .c (.b true), .t 138], (some (130, true))⟩,
   ⟨(some 140), .pick, [.t 130, .t 139, .c (.b false)], (some (125, false))⟩,
   ⟨(some 141), .pick, [.t 125, .c (.b true), .t 140], none⟩,
   ⟨(some 142), .mv, [.t 141], none⟩,
   ⟨(some 143), .mv, [.t 11], (some (142, false))⟩,
   ⟨(some 144), .mv, [.t 143], (some (142, false))⟩,
   ⟨(some 145), .mv, [.t 10], (some (144, true))⟩,
   ⟨(some 146), (.binI .eql), [.t 145, .c (.i .i64 0)], (some (144, true))⟩,
   ⟨(some 147), .mv, [.t 7], (some (144, true))⟩,
   ⟨(some 148), .mv, [.t 8], (some (144, true))⟩,
   ⟨(some 149), (.binI .eql), [.t 147, .t 148], (some (144, true))⟩,
   ⟨(some 150), (.eqB true), [.t 146, .t 149], (some (144, true))⟩,
   ⟨(some 151), .pick, [.t 144, .t 150, .c (.b false)], (some (142, false))⟩,
   ⟨(some 152), .pick, [.t 142, .c (.b true), .t 151], none⟩] [0, 1, 7, 8, 10, 11, 152])
 (.cond (.t 152)
  (.seq (.reg [⟨(some 6), .mv, [.c (.b false)], none⟩] [6])
  .ret)
  .skip))
 (.seq (.seq (.reg [⟨(some 153), .mv, [.t 11], none⟩,
   ⟨(some 154), .notB, [.t 153], none⟩] [0, 1, 7, 8, 10, 154])
 (.cond (.t 154)
  (.seq (.reg [⟨(some 155), (.call (.pu [])), [.c (.fn 25 [] [])], none⟩,
    ⟨(some 6), .mv, [.t 155], none⟩] [6])
  .ret)
  .skip))
 (.seq (.seq (.reg [⟨(some 156), .mv, [.t 10], none⟩,
   ⟨(some 157), (.binI .lss), [.t 156, .c (.i .i64 0)], none⟩,
   ⟨(some 158), .mv, [.t 157], none⟩,
   ⟨(some 159), .mv, [.t 10], (some (158, false))⟩,
   ⟨(some 160), (.binI .gtr), [.t 159, .c (.i .i64 36)], (some (158, false))⟩,
   ⟨(some 161), .pick, [.t 158, .c (.b true), .t 160], none⟩,
   ⟨(some 162), .mv, [.t 161], none⟩,
   ⟨(some 163), .mv, [.t 10], (some (162, false))⟩,
   ⟨(some 164), (.binI .rem), [.t 163, .c (.i .i64 2)], (some (162, false))⟩,
   ⟨(some 165), (.binI .eql), [.t 164, .c (.i .i64 0)], (some (162, false))⟩,
   ⟨(some 166), .mv, [.t 1], (some (162, false))⟩,
   ⟨(some 167), .mv, [.t 7], (some (162, false))⟩,
   ⟨(some 168), (.call (.pu [])), [.c (.fn 44 [] []), .t 166, .t 167], (some (162, false))⟩,
   ⟨(some 169), .mv, [.t 1], (some (162, false))⟩,
   ⟨(some 170), .mv, [.t 8], (some (162, false))⟩,
   ⟨(some 171), (.call (.pu [])), [.c (.fn 44 [] []), .t 169, .t 170], (some (162, false))⟩,
   ⟨(some 172), (.binI .eql), [.t 168, .t 171], (some (162, false))⟩,
   ⟨(some 173), (.eqB true), [.t 165, .t 172], (some (162, false))⟩,
   ⟨(some 174), .pick, [.t 162, .c (.b true), .t 173], none⟩] [0, 1, 7, 8, 10, 174])
 (.cond (.t 174)
  (.seq (.reg [⟨(some 6), .mv, [.c (.b false)], none⟩] [6])
  .ret)
  .skip))
 (.seq (.reg [⟨(some 176), .mv, [.t 0], none⟩,
   ⟨(some 177), .mv, [.t 1], none⟩,
   ⟨(some 178), .mv, [.t 8], none⟩,
   ⟨(some 179), (.call (.pu [])), [.c (.fn 28 [] []), .t 176, .t 177, .t 178], none⟩,
   ⟨(some 175), .mv, [.t 179], none⟩,
   ⟨(some 180), (.ext 0), [.t 175], none⟩,
   ⟨(some 181), (.ext 1), [.t 175], none⟩,
   ⟨(some 22), .mv, [.t 180], none⟩,
   ⟨(some 23), .mv, [.t 181], none⟩] [0, 1, 7, 8, 10, 22, 23])
 (.seq (.seq (.reg [⟨(some 24), .mv, [.c (.i .i64 0)], none⟩] [0, 1, 7, 8, 10, 22, 23, 24])
 (.block 0
  l9_1))
 (.seq (.reg [⟨(some 223), .mv, [.t 0], none⟩,
   ⟨(some 224), .mv, [.t 1], none⟩,
   ⟨(some 225), .mv, [.t 7], none⟩,
   ⟨(some 226), .mv, [.t 10], none⟩,
   ⟨(some 227), (.call (.pu [])), [.c (.fn 42 [] []), .t 223, .t 224, .t 225, .t 226], none⟩,
   ⟨(some 222), .mv, [.t 227], none⟩,
   ⟨(some 228), (.ext 0), [.t 222], none⟩,
   ⟨(some 229), (.ext 1), [.t 222], none⟩,
   ⟨(some 28), .mv, [.t 228], none⟩,
   ⟨(some 29), .mv, [.t 229], none⟩] [8, 23, 28, 29])
 (.seq (.reg [⟨(some 30), .mv, [.c (.b false)], none⟩] [8, 23, 28, 29, 30])
 (.seq (.seq (.reg [⟨(some 31), .mv, [.c (.i .i64 0)], none⟩] [8, 23, 28, 29, 30, 31])
 (.block 2
  l9_3))
 (.seq (.reg [⟨(some 245), .mv, [.t 23], none⟩,
   ⟨(some 246), (.binI .eql), [.t 245, .c (.i .i64 0)], none⟩,
   ⟨(some 247), .mv, [.t 246], none⟩,
   ⟨(some 248), .mv, [.t 29], (some (247, true))⟩,
   ⟨(some 249), (.binI .eql), [.t 248, .c (.i .i64 0)], (some (247, true))⟩,
   ⟨(some 250), .pick, [.t 247, .t 249, .c (.b false)], none⟩,
   ⟨(some 251), .mv, [.t 250], none⟩,
   ⟨(some 252), .mv, [.t 30], (some (251, true))⟩,
   ⟨(some 253), .pick, [.t 251, .t 252, .c (.b false)], none⟩,
   ⟨(some 254), .mv, [.t 253], none⟩,
   ⟨(some 255), (.call (.pu [])), [.c (.fn 25 [] [])], (some (254, true))⟩,
   ⟨(some 256), .pick, [.t 254, .t 255, .c (.b false)], none⟩,
   ⟨(some 6), .mv, [.t 256], none⟩] [6])
 .ret))))))))))))))))

def c10 : DC :=
 (.seq (.reg [⟨(some 4), .mv, [.c (.b false)], none⟩] [0, 1])
 (.seq (.reg [⟨(some 12), .mv, [.t 0], none⟩,
   ⟨(some 13), .mv, [.t 1], none⟩,
   ⟨(some 14), (.call (.pu [])), [.c (.fn 18 [] []), .t 12, .t 13], none⟩,
   ⟨(some 11), .mv, [.t 14], none⟩,
   ⟨(some 15), (.ext 0), [.t 11], none⟩,
   ⟨(some 16), (.ext 1), [.t 11], none⟩,
   ⟨(some 0), .mv, [.t 15], none⟩,
   ⟨(some 1), .mv, [.t 16], none⟩] [0, 1])
 (.seq (.reg [⟨(some 18), .mv, [.t 0], none⟩,
   ⟨(some 19), .mv, [.t 1], none⟩,
   ⟨(some 20), (.call (.pu [])), [.c (.fn 45 [] []), .t 18, .t 19], none⟩,
   ⟨(some 17), .mv, [.t 20], none⟩,
   ⟨(some 21), (.ext 0), [.t 17], none⟩,
   ⟨(some 22), (.ext 1), [.t 17], none⟩,
   ⟨(some 23), (.ext 2), [.t 17], none⟩,
   ⟨(some 5), .mv, [.t 21], none⟩,
   ⟨(some 6), .mv, [.t 22], none⟩,
   ⟨(some 7), .mv, [.t 23], none⟩] [0, 1, 5, 6, 7])
 (.seq (.reg [⟨(some 25), .mv, [.t 0], none⟩,
   ⟨(some 26), .mv, [.t 1], none⟩,
   ⟨(some 27), (.call (.pu [])), [.c (.fn 46 [] []), .t 25, .t 26], none⟩,
   ⟨(some 24), .mv, [.t 27], none⟩,
   ⟨(some 28), (.ext 0), [.t 24], none⟩,
   ⟨(some 29), (.ext 1), [.t 24], none⟩,
   ⟨(some 8), .mv, [.t 28], none⟩,
   ⟨(some 9), .mv, [.t 29], none⟩] [0, 1, 5, 6, 7, 8, 9])
 (.seq (.reg [⟨(some 30), .mv, [.t 0], none⟩,
   ⟨(some 31), .mv, [.t 1], none⟩,
   ⟨(some 32), (.call (.pu [])), [.c (.fn 47 [] []), .t 30, .t 31], none⟩,
   ⟨(some 10), .mv, [.t 32], none⟩] [0, 1, 5, 6, 7, 8, 9, 10])
 (.seq (.reg [⟨(some 33), .mv, [.t 7], none⟩,
   ⟨(some 34), (.binI .eql), [.t 33, .c (.i .i64 0)], none⟩,
   ⟨(some 35), .mv, [.t 34], none⟩,
   ⟨(some 36), .mv, [.t 5], (some (35, true))⟩,
   ⟨(some 37), (.binI .geq), [.t 36, .c (.i .i64 0)], (some (35, true))⟩,
   ⟨(some 38), .pick, [.t 35, .t 37, .c (.b false)], none⟩,
   ⟨(some 39), .mv, [.t 38], none⟩,
   ⟨(some 40), .mv, [.t 5], (some (39, true))⟩,
   ⟨(some 41), .mv, [.t 0], (some (39, true))⟩,
   ⟨(some 42), .mv, [.t 1], (some (39, true))⟩,
   ⟨(some 43), (.binI .mul), [.t 41, .t 42], (some (39, true))⟩,
   ⟨(some 44), (.binI .shl), [.c (.i .i64 1), .t 43], (some (39, true))⟩,
   ⟨(some 45), (.binI .lss), [.t 40, .t 44], (some (39, true))⟩,
   ⟨(some 46), .pick, [.t 39, .t 45, .c (.b false)], none⟩,
   ⟨(some 47), .mv, [.t 46], none⟩,
   ⟨(some 48), .mv, [.t 0], (some (47, true))⟩,
   ⟨(some 49), .mv, [.t 1], (some (47, true))⟩,
   ⟨(some 50), .mv, [.t 5], (some (47, true))⟩,
   ⟨(some 51), (.call (.pu [])), [.c (.fn 40 [] []), .t 48, .t 49, .t 50], (some (47, true))⟩,
   ⟨(some 52), .pick, [.t 47, .t 51, .c (.b false)], none⟩,
   ⟨(some 53), .mv, [.t 52], none⟩,
   ⟨(some 54), .mv, [.t 5], (some (53, true))⟩,
   ⟨(some 55), (.call (.pu [])), [.c (.fn 48 [] []), .t 54], (some (53, true))⟩,
   ⟨(some 56), .mv, [.t 6], (some (53, true))⟩,
   ⟨(some 57), (.binI .eql), [.t 55, .t 56], (some (53, true))⟩,
   ⟨(some 58), .pick, [.t 53, .t 57, .c (.b false)], none⟩,
   ⟨(some 59), .mv, [.t 58], none⟩,
   ⟨(some 60), .mv, [.t 6], (some (59, true))⟩,
   ⟨(some 61), .mv, [.t 0], (some (59, true))⟩,
   ⟨(some 62), .mv, [.t 1], (some (59, true))⟩,
   ⟨(some 63), (.binI .mul), [.t 61, .t 62], (some (59, true))⟩,
   ⟨(some 64), .mv, [.t 10], (some (59, true))⟩,
   ⟨(some 65), (.binI .sub), [.t 63, .t 64], (some (59, true))⟩,
   ⟨(some 66), (.binI .eql), [.t 60, .t 65], (some (59, true))⟩,
   ⟨(some 67), .pick, [.t 59, .t 66, .c (.b false)], none⟩,
   ⟨(some 68), .mv, [.t 67], none⟩,
   ⟨(some 69), .mv, [.t 9], (some (68, true))⟩,
   ⟨(some 70), (.binI .eql), [.t 69, .c (.i .i64 0)], (some (68, true))⟩,
   ⟨(some 71), .pick, [.t 68, .t 70, .c (.b false)], none⟩,
   ⟨(some 72), .mv, [.t 71], none⟩,
   ⟨(some 73), .mv, [.t 8], (some (72, true))⟩,
   ⟨(some 74), (.len 0), [.t 73], (some (72, true))⟩,
   ⟨(some 75), .mv, [.t 10], (some (72, true))⟩,
   ⟨(some 76), (.binI .eql), [.t 74, .t 75], (some (72, true))⟩,
   ⟨(some 77), .pick, [.t 72, .t 76, .c (.b false)], none⟩,
   ⟨(some 78), .mv, [.t 77], none⟩,
   ⟨(some 79), .mv, [.t 0], (some (78, true))⟩,
   ⟨(some 80), .mv, [.t 1], (some (78, true))⟩,
   ⟨(some 81), .mv, [.t 8], (some (78, true))⟩,
   ⟨(some 82), (.call (.pu [])), [.c (.fn 49 [] []), .t 79, .t 80, .t 81], (some (78, true))⟩,
   ⟨(some 83), .pick, [.t 78, .t 82, .c (.b false)], none⟩,
   ⟨(some 84), .mv, [.t 83], none⟩,
   ⟨(some 85), (.call (.pu [])), [.c (.fn 25 [] [])], (some (84, true))⟩,
   ⟨(some 86), .pick, [.t 84, .t 85, .c (.b false)], none⟩,
   ⟨(some 4), .mv, [.t 86], none⟩] [4])
 .ret))))))

def c11 : DC :=
 (.seq (.reg [⟨(some 6), .mv, [.c (.b false)], none⟩] [0, 1, 2])
 (.seq (.reg [⟨(some 11), .mv, [.t 0], none⟩,
   ⟨(some 12), .mv, [.t 1], none⟩,
   ⟨(some 13), (.call (.pu [])), [.c (.fn 18 [] []), .t 11, .t 12], none⟩,
   ⟨(some 10), .mv, [.t 13], none⟩,
   ⟨(some 14), (.ext 0), [.t 10], none⟩,
   ⟨(some 15), (.ext 1), [.t 10], none⟩,
   ⟨(some 0), .mv, [.t 14], none⟩,
   ⟨(some 1), .mv, [.t 15], none⟩] [0, 1, 2])
 (.seq (.reg [⟨(some 16), .mv, [.t 2], none⟩,
   ⟨(some 17), (.call (.pu [])), [.c (.fn 50 [] []), .t 16], none⟩,
   ⟨(some 7), .mv, [.t 17], none⟩] [0, 1, 7])
 (.seq (.reg [⟨(some 19), .mv, [.t 0], none⟩,
   ⟨(some 20), .mv, [.t 1], none⟩,
   ⟨(some 21), .mv, [.t 7], none⟩,
   ⟨(some 22), (.call (.pu [])), [.c (.fn 51 [] []), .t 19, .t 20, .t 21], none⟩,
   ⟨(some 18), .mv, [.t 22], none⟩,
   ⟨(some 23), (.ext 0), [.t 18], none⟩,
   ⟨(some 24), (.ext 1), [.t 18], none⟩,
   ⟨(some 8), .mv, [.t 23], none⟩,
   ⟨(some 9), .mv, [.t 24], none⟩] [0, 1, 7, 8, 9])
 (.seq (.seq (.reg [⟨(some 25), .mv, [.t 0], none⟩,
   ⟨(some 26), .mv, [.t 1], none⟩,
   ⟨(some 27), .mv, [.t 7], none⟩,
   ⟨(some 28), (.call (.pu [])), [.c (.fn 23 [] []), .t 25, .t 26, .t 27], none⟩,
   ⟨(some 29), .notB, [.t 28], none⟩] [1, 7, 8, 9, 29])
 (.cond (.t 29)
  (.seq (.reg [⟨(some 30), .mv, [.t 9], none⟩,
    ⟨(some 31), (.binI .eql), [.t 30, .c (.i .i64 60)], none⟩,
    ⟨(some 32), .mv, [.t 31], none⟩,
    ⟨(some 33), .mv, [.t 8], (some (32, true))⟩,
    ⟨(some 34), .notB, [.t 33], (some (32, true))⟩,
    ⟨(some 35), .pick, [.t 32, .t 34, .c (.b false)], none⟩,
    ⟨(some 36), .mv, [.t 35], none⟩,
    ⟨(some 37), (.call (.pu [])), [.c (.fn 25 [] [])], (some (36, true))⟩,
    ⟨(some 38), .pick, [.t 36, .t 37, .c (.b false)], none⟩,
    ⟨(some 6), .mv, [.t 38], none⟩] [6])
  .ret)
  .skip))
 (.seq (.reg [⟨(some 39), .mv, [.t 9], none⟩,
   ⟨(some 40), (.binI .eql), [.t 39, .c (.i .i64 0)], none⟩,
   ⟨(some 41), .mv, [.t 40], none⟩,
   ⟨(some 42), .mv, [.t 8], (some (41, true))⟩,
   ⟨(some 43), .mv, [.t 1], (some (41, true))⟩,
   ⟨(some 44), .mv, [.t 7], (some (41, true))⟩,
   ⟨(some 45), (.call (.pu [])), [.c (.fn 24 [] []), .t 43, .t 44], (some (41, true))⟩,
   ⟨(some 46), (.eqB false), [.t 42, .t 45], (some (41, true))⟩,
   ⟨(some 47), .pick, [.t 41, .t 46, .c (.b false)], none⟩,
   ⟨(some 48), .mv, [.t 47], none⟩,
   ⟨(some 49), (.call (.pu [])), [.c (.fn 25 [] [])], (some (48, true))⟩,
   ⟨(some 50), .pick, [.t 48, .t 49, .c (.b false)], none⟩,
   ⟨(some 6), .mv, [.t 50], none⟩] [6])
 .ret))))))

def c12 : DC :=
 (.seq (.reg [⟨(some 6), .mv, [.c (.b false)], none⟩] [0, 1, 2])
 (.seq (.reg [⟨(some 16), .mv, [.t 0], none⟩,
   ⟨(some 17), .mv, [.t 1], none⟩,
   ⟨(some 18), (.call (.pu [])), [.c (.fn 18 [] []), .t 16, .t 17], none⟩,
   ⟨(some 15), .mv, [.t 18], none⟩,
   ⟨(some 19), (.ext 0), [.t 15], none⟩,
   ⟨(some 20), (.ext 1), [.t 15], none⟩,
   ⟨(some 0), .mv, [.t 19], none⟩,
   ⟨(some 1), .mv, [.t 20], none⟩] [0, 1, 2])
 (.seq (.reg [⟨(some 22), .mv, [.t 0], none⟩,
   ⟨(some 23), .mv, [.t 1], none⟩,
   ⟨(some 24), (.call (.pu [])), [.c (.fn 45 [] []), .t 22, .t 23], none⟩,
   ⟨(some 21), .mv, [.t 24], none⟩,
   ⟨(some 25), (.ext 0), [.t 21], none⟩,
   ⟨(some 26), (.ext 1), [.t 21], none⟩,
   ⟨(some 27), (.ext 2), [.t 21], none⟩,
   ⟨(some 7), .mv, [.t 25], none⟩,
   ⟨(some 8), .mv, [.t 26], none⟩,
   ⟨(some 9), .mv, [.t 27], none⟩] [0, 1, 2, 8, 9])
 (.seq (.reg [⟨(some 29), .mv, [.t 0], none⟩,
   ⟨(some 30), .mv, [.t 1], none⟩,
   ⟨(some 31), (.call (.pu [])), [.c (.fn 46 [] []), .t 29, .t 30], none⟩,
   ⟨(some 28), .mv, [.t 31], none⟩,
   ⟨(some 32), (.ext 0), [.t 28], none⟩,
   ⟨(some 33), (.ext 1), [.t 28], none⟩,
   ⟨(some 10), .mv, [.t 32], none⟩,
   ⟨(some 11), .mv, [.t 33], none⟩] [0, 1, 2, 8, 9, 10, 11])
 (.seq (.reg [⟨(some 34), .mv, [.t 2], none⟩,
   ⟨(some 35), (.conv .u64), [.t 34], none⟩,
   ⟨(some 36), .mv, [.t 0], none⟩,
   ⟨(some 37), .mv, [.t 1], none⟩,
   ⟨(some 38), (.binI .mul), [.t 36, .t 37], none⟩,
   ⟨(some 39), (.binI .shl), [.c (.i .u64 1), .t 38], none⟩,
   ⟨(some 40), (.binI .rem), [.t 35, .t 39], none⟩,
   ⟨(some 41), (.conv .i64), [.t 40], none⟩,
   ⟨(some 12), .mv, [.t 41], none⟩] [0, 1, 8, 9, 10, 11, 12])
 (.seq (.reg [⟨(some 43), .mv, [.t 0], none⟩,
   ⟨(some 44), .mv, [.t 1], none⟩,
   ⟨(some 45), .mv, [.t 12], none⟩,
   ⟨(some 46), (.call (.pu [])), [.c (.fn 39 [] []), .t 43, .t 44, .t 45], none⟩,
   ⟨(some 42), .mv, [.t 46], none⟩,
   ⟨(some 47), (.ext 0), [.t 42], none⟩,
   ⟨(some 48), (.ext 1), [.t 42], none⟩,
   ⟨(some 13), .mv, [.t 47], none⟩,
   ⟨(some 14), .mv, [.t 48], none⟩] [0, 1, 8, 9, 10, 11, 12, 13, 14])
 (.seq (.seq (.reg [⟨(some 49), .mv, [.t 9], none⟩,
   ⟨(some 50), (.binI .neq), [.t 49, .c (.i .i64 0)], none⟩,
   ⟨(some 51), .mv, [.t 50], none⟩,
   ⟨(some 52), .mv, [.t 11], (some (51, false))⟩,
   ⟨(some 53), (.binI .neq), [.t 52, .c (.i .i64 0)], (some (51, false))⟩,
   ⟨(some 54), .pick, [.t 51, .c (.b true), .t 53], none⟩,
   ⟨(some 55), .mv, [.t 54], none⟩,
   ⟨(some 56), .mv, [.t 14], (some (55, false))⟩,
   ⟨(some 57), (.binI .neq), [.t 56, .c (.i .i64 0)], (some (55, false))⟩,
   ⟨(some 58), .pick, [.t 55, .c (.b true), .t 57], none⟩,
   ⟨(some 59), .mv, [.t 58], none⟩,
   ⟨(some 60), .mv, [.t 8], (some (59, false))⟩,
   ⟨(some 61), .mv, [.t 10], (some (59, false))⟩,
   ⟨(some 62), (.len 0), [.t 61], (some (59, false))⟩,
   ⟨(some 63), (.binI .add), [.t 60, .t 62], (some (59, false))⟩,
   ⟨(some 64), .mv, [.t 0], (some (59, false))⟩,
   ⟨(some 65), .mv, [.t 1], (some (59, false))⟩,
   ⟨(some 66), (.binI .mul), [.t 64, .t 65], (some (59, false))⟩,
   ⟨(some 67), (.binI .neq), [.t 63, .t 66], (some (59, false))⟩,
   ⟨(some 68), .pick, [.t 59, .c (.b true), .t 67], none⟩,
   ⟨(some 69), .mv, [.t 68], none⟩,
   ⟨(some 70), .mv, [.t 13], (some (69, false))⟩,
   ⟨(some 71), .mv, [.t 70], (some (69, false))⟩,
   ⟨(some 72), .mv, [.t 12], (some (71, true))⟩,
   ⟨(some 73), (.call (.pu [])), [.c (.fn 48 [] []), .t 72], (some (71, true))⟩,
   ⟨(some 74), .mv, [.t 8], (some (71, true))⟩,
   ⟨(some 75), (.binI .gtr), [.t 73, .t 74], (some (71, true))⟩,
   ⟨(some 76), .pick, [.t 71, .t 75, .c (.b false)], (some (69, false))⟩,
   ⟨(some 77), .pick, [.t 69, .c (.b true), .t 76], none⟩] [0, 1, 8, 77])
 (.cond (.t 77)
  (.seq (.reg [⟨(some 6), .mv, [.c (.b false)], none⟩] [6])
  .ret)
  .skip))
 (.seq (.reg [⟨(some 78), .mv, [.t 0], none⟩,
   ⟨(some 79), (.binI .lss), [.t 78, .c (.i .i64 3)], none⟩,
   ⟨(some 80), .mv, [.t 79], none⟩,
   ⟨(some 81), .mv, [.t 1], (some (80, false))⟩,
   ⟨(some 82), (.binI .lss), [.t 81, .c (.i .i64 3)], (some (80, false))⟩,
   ⟨(some 83), .pick, [.t 80, .c (.b true), .t 82], none⟩,
   ⟨(some 84), .mv, [.t 83], none⟩,
   ⟨(some 85), .mv, [.t 8], (some (84, false))⟩,
   ⟨(some 86), .mv, [.t 0], (some (84, false))⟩,
   ⟨(some 87), .mv, [.t 1], (some (84, false))⟩,
   ⟨(some 88), (.binI .mul), [.t 86, .t 87], (some (84, false))⟩,
   ⟨(some 89), (.binI .add), [.t 88, .c (.i .i64 1)], (some (84, false))⟩,
   ⟨(some 90), (.binI .quo), [.t 89, .c (.i .i64 2)], (some (84, false))⟩,
   ⟨(some 91), (.binI .eql), [.t 85, .t 90], (some (84, false))⟩,
   ⟨(some 92), .pick, [.t 84, .c (.b true), .t 91], none⟩,
   ⟨(some 93), .mv, [.t 92], none⟩,
   ⟨(some 94), (.call (.pu [])), [.c (.fn 25 [] [])], (some (93, true))⟩,
   ⟨(some 95), .pick, [.t 93, .t 94, .c (.b false)], none⟩,
   ⟨(some 6), .mv, [.t 95], none⟩] [6])
 .ret))))))))

def b13_0 : DC :=
 (.seq (.seq (.reg [⟨(some 139), .mv, [.t 24], none⟩,
   ⟨(some 140), .mv, [.t 14], none⟩,
   ⟨(some 141), (.len 0), [.t 140], none⟩,
   ⟨(some 142), (.binI .lss), [.t 139, .t 141], none⟩] [1, 14, 24, 142])
 (.cond (.t 142)
  .skip
  (.exit 0)))
 (.seq (.block 1
  (.seq (.reg [⟨(some 145), .mv, [.t 1], none⟩,
    ⟨(some 146), .mv, [.t 14], none⟩,
    ⟨(some 147), .mv, [.t 24], none⟩,
    ⟨(some 148), (.ixS 1 false), [.t 146, .t 147], none⟩,
    ⟨(some 149), (.ld 1 false), [.t 148], none⟩,
    ⟨(some 150), (.call (.pu [])), [.c (.fn 44 [] []), .t 145, .t 149], none⟩,
    ⟨(some 151), .mv, [.t 1], none⟩,
    ⟨(some 152), .mv, [.t 14], none⟩,
    ⟨(some 153), .mv, [.t 24], none⟩,
    ⟨(some 154), (.binI .sub), [.t 153, .c (.i .i64 1)], none⟩,
    ⟨(some 155), (.ixS 1 false), [.t 152, .t 154], none⟩,
    ⟨(some 156), (.ld 1 false), [.t 155], none⟩,
    ⟨(some 157), (.call (.pu [])), [.c (.fn 44 [] []), .t 151, .t 156], none⟩,
    ⟨(some 158), (.binI .eql), [.t 150, .t 157], none⟩] [1, 14, 24, 158])
  (.cond (.t 158)
   (.seq (.reg [⟨(some 4), .mv, [.c (.b false)], none⟩] [4])
   .ret)
   .skip)))
 (.reg [⟨(some 143), .mv, [.t 24], none⟩,
   ⟨(some 144), (.binI .add), [.t 143, .c (.i .i64 1)], none⟩,
   ⟨(some 24), .mv, [.t 144], none⟩] [1, 14, 24])))

def l13_1 : DC :=
 (.loop [1, 14, 24] b13_0)

def c13 : DC :=
 (.seq (.reg [⟨(some 4), .mv, [.c (.b false)], none⟩] [0, 1])
 (.seq (.reg [⟨(some 26), .mv, [.t 0], none⟩,
   ⟨(some 27), .mv, [.t 1], none⟩,
   ⟨(some 28), (.call (.pu [])), [.c (.fn 18 [] []), .t 26, .t 27], none⟩,
   ⟨(some 25), .mv, [.t 28], none⟩,
   ⟨(some 29), (.ext 0), [.t 25], none⟩,
   ⟨(some 30), (.ext 1), [.t 25], none⟩,
   ⟨(some 0), .mv, [.t 29], none⟩,
   ⟨(some 1), .mv, [.t 30], none⟩] [0, 1])
 (.seq (.reg [⟨(some 32), .mv, [.t 0], none⟩,
   ⟨(some 33), .mv, [.t 1], none⟩,
   ⟨(some 34), (.call (.pu [])), [.c (.fn 19 [] []), .t 32, .t 33], none⟩,
   ⟨(some 31), .mv, [.t 34], none⟩,
   ⟨(some 35), (.ext 0), [.t 31], none⟩,
   ⟨(some 36), (.ext 1), [.t 31], none⟩,
   ⟨(some 37), (.ext 2), [.t 31], none⟩,
   ⟨(some 5), .mv, [.t 35], none⟩,
   ⟨(some 6), .mv, [.t 36], none⟩,
   ⟨(some 7), .mv, [.t 37], none⟩] [0, 1, 5, 6, 7])
 (.seq (.reg [⟨(some 39), .mv, [.t 1], none⟩,
   ⟨(some 40), .mv, [.t 0], none⟩,
   ⟨(some 41), (.call (.pu [])), [.c (.fn 19 [] []), .t 39, .t 40], none⟩,
   ⟨(some 38), .mv, [.t 41], none⟩,
   ⟨(some 42), (.ext 0), [.t 38], none⟩,
   ⟨(some 43), (.ext 1), [.t 38], none⟩,
   ⟨(some 44), (.ext 2), [.t 38], none⟩,
   ⟨(some 8), .mv, [.t 42], none⟩,
   ⟨(some 9), .mv, [.t 43], none⟩,
   ⟨(some 10), .mv, [.t 44], none⟩] [0, 1, 5, 6, 7, 9, 10])
 (.seq (.reg [⟨(some 46), .mv, [.t 0], none⟩,
   ⟨(some 47), .mv, [.t 1], none⟩,
   ⟨(some 48), (.call (.pu [])), [.c (.fn 35 [] []), .t 46, .t 47], none⟩,
   ⟨(some 45), .mv, [.t 48], none⟩,
   ⟨(some 49), (.ext 0), [.t 45], none⟩,
   ⟨(some 50), (.ext 1), [.t 45], none⟩,
   ⟨(some 51), (.ext 2), [.t 45], none⟩,
   ⟨(some 11), .mv, [.t 49], none⟩,
   ⟨(some 12), .mv, [.t 50], none⟩,
   ⟨(some 13), .mv, [.t 51], none⟩] [0, 1, 5, 6, 7, 9, 10, 12, 13])
 (.seq (.reg [⟨(some 53), .mv, [.t 0], none⟩,
   ⟨(some 54), .mv, [.t 1], none⟩,
   ⟨(some 55), (.call (.pu [])), [.c (.fn 20 [] []), .t 53, .t 54], none⟩,
   ⟨(some 52), .mv, [.t 55], none⟩,
   ⟨(some 56), (.ext 0), [.t 52], none⟩,
   ⟨(some 57), (.ext 1), [.t 52], none⟩,
   ⟨(some 58), (.ext 2), [.t 52], none⟩,
   ⟨(some 14), .mv, [.t 56], none⟩,
   ⟨(some 15), .mv, [.t 57], none⟩,
   ⟨(some 16), .mv, [.t 58], none⟩] [0, 1, 5, 6, 7, 9, 10, 12, 13, 14, 15, 16])
 (.seq (.reg [⟨(some 60), .mv, [.t 1], none⟩,
   ⟨(some 61), .mv, [.t 0], none⟩,
   ⟨(some 62), (.call (.pu [])), [.c (.fn 20 [] []), .t 60, .t 61], none⟩,
   ⟨(some 59), .mv, [.t 62], none⟩,
   ⟨(some 63), (.ext 0), [.t 59], none⟩,
   ⟨(some 64), (.ext 1), [.t 59], none⟩,
   ⟨(some 65), (.ext 2), [.t 59], none⟩,
   ⟨(some 17), .mv, [.t 63], none⟩,
   ⟨(some 18), .mv, [.t 64], none⟩,
   ⟨(some 19), .mv, [.t 65], none⟩] [0, 1, 5, 6, 7, 9, 10, 12, 13, 14, 15, 16, 18, 19])
 (.seq (.seq (.reg [⟨(some 66), .mv, [.t 7], none⟩,
   ⟨(some 67), (.binI .neq), [.t 66, .c (.i .i64 0)], none⟩,
   ⟨(some 68), .mv, [.t 67], none⟩,
   ⟨(some 69), .mv, [.t 10], (some (68, false))⟩,
   ⟨(some 70), (.binI .neq), [.t 69, .c (.i .i64 0)], (some (68, false))⟩,
   ⟨(some 71), .pick, [.t 68, .c (.b true), .t 70], none⟩,
   ⟨(some 72), .mv, [.t 71], none⟩,
   ⟨(some 73), .mv, [.t 13], (some (72, false))⟩,
   ⟨(some 74), (.binI .neq), [.t 73, .c (.i .i64 0)], (some (72, false))⟩,
   ⟨(some 75), .pick, [.t 72, .c (.b true), .t 74], none⟩,
   ⟨(some 76), .mv, [.t 75], none⟩,
   ⟨(some 77), .mv, [.t 16], (some (76, false))⟩,
   ⟨(some 78), (.binI .neq), [.t 77, .c (.i .i64 0)], (some (76, false))⟩,
   ⟨(some 79), .pick, [.t 76, .c (.b true), .t 78], none⟩,
   ⟨(some 80), .mv, [.t 79], none⟩,
   ⟨(some 81), .mv, [.t 19], (some (80, false))⟩,
   ⟨(some 82), (.binI .neq), [.t 81, .c (.i .i64 0)], (some (80, false))⟩,
   ⟨(some 83), .pick, [.t 80, .c (.b true), .t 82], none⟩,
   ⟨(some 84), .mv, [.t 83], none⟩,
   ⟨(some 85), .mv, [.t 6], (some (84, false))⟩,
   ⟨(some 86), .mv, [.t 9], (some (84, false))⟩,
   ⟨(some 87), (.eqB true), [.t 85, .t 86], (some (84, false))⟩,
   ⟨(some 88), .pick, [.t 84, .c (.b true), .t 87], none⟩,
   ⟨(some 89), .mv, [.t 88], none⟩,
   ⟨(some 90), .mv, [.t 6], (some (89, false))⟩,
   ⟨(some 91), .mv, [.t 90], (some (89, false))⟩,
   ⟨(some 92), .mv, [.t 12], (some (91, true))⟩,
   ⟨(some 93), .pick, [.t 91, .t 92, .c (.b false)], (some (89, false))⟩,
   ⟨(some 94), .pick, [.t 89, .c (.b true), .t 93], none⟩,
   ⟨(some 95), .mv, [.t 94], none⟩,
   ⟨(some 96), .mv, [.t 6], (some (95, false))⟩,
   ⟨(some 97), .mv, [.t 96], (some (95, false))⟩,
   ⟨(some 98), .mv, [.t 15], (some (97, true))⟩,
   ⟨(some 99), .notB, [.t 98], (some (97, true))⟩,
   ⟨(some 100), .pick, [.t 97, .t 99, .c (.b false)], (some (95, false))⟩,
   ⟨(some 101), .pick, [.t 95, .c (.b true), .t 100], none⟩,
   ⟨(some 102), .mv, [.t 101], none⟩,
   ⟨(some 103), .mv, [.t 15], (some (102, false))⟩,
   ⟨(some 104), .mv, [.t 18], (some (102, false))⟩,
   ⟨(some 105), (.eqB true), [.t 103, .t 104], (some (102, false))⟩,
   ⟨(some 106), .pick, [.t 102, .c (.b true), .t 105], none⟩] [0, 1, 5, 6, 14, 15, 106])
 (.cond (.t 106)
  (.seq (.reg [⟨(some 4), .mv, [.c (.b false)], none⟩] [4])
  .ret)
  .skip))
 (.seq (.seq (.reg [⟨(some 107), .mv, [.t 6], none⟩] [0, 1, 5, 14, 15, 107])
 (.cond (.t 107)
  (.seq (.reg [⟨(some 109), .mv, [.t 0], none⟩,
    ⟨(some 110), .mv, [.t 1], none⟩,
    ⟨(some 111), .mv, [.t 5], none⟩,
    ⟨(some 112), (.call (.pu [])), [.c (.fn 51 [] []), .t 109, .t 110, .t 111], none⟩,
    ⟨(some 108), .mv, [.t 112], none⟩,
    ⟨(some 113), (.ext 0), [.t 108], none⟩,
    ⟨(some 114), (.ext 1), [.t 108], none⟩,
    ⟨(some 20), .mv, [.t 113], none⟩,
    ⟨(some 21), .mv, [.t 114], none⟩] [0, 1, 14, 15, 20, 21])
  (.seq (.reg [⟨(some 115), .mv, [.t 21], none⟩,
    ⟨(some 116), (.binI .neq), [.t 115, .c (.i .i64 0)], none⟩,
    ⟨(some 117), .mv, [.t 116], none⟩,
    ⟨(some 118), .mv, [.t 20], (some (117, false))⟩,
    ⟨(some 119), .notB, [.t 118], (some (117, false))⟩,
    ⟨(some 120), .pick, [.t 117, .c (.b true), .t 119], none⟩] [0, 1, 14, 15, 120])
  (.cond (.t 120)
   (.seq (.reg [⟨(some 4), .mv, [.c (.b false)], none⟩] [4])
   .ret)
   .skip)))
  .skip))
 (.seq (.seq (.reg [⟨(some 121), .mv, [.t 15], none⟩] [0, 1, 14, 121])
 (.cond (.t 121)
  (.seq (.seq (.reg [⟨(some 123), .mv, [.t 0], none⟩,
    ⟨(some 124), .mv, [.t 1], none⟩,
    ⟨(some 125), .mv, [.t 14], none⟩,
    ⟨(some 126), (.call (.pu [])), [.c (.fn 51 [] []), .t 123, .t 124, .t 125], none⟩,
    ⟨(some 122), .mv, [.t 126], none⟩,
    ⟨(some 127), (.ext 0), [.t 122], none⟩,
    ⟨(some 128), (.ext 1), [.t 122], none⟩,
    ⟨(some 22), .mv, [.t 127], none⟩,
    ⟨(some 23), .mv, [.t 128], none⟩] [0, 1, 14, 23])
  (.seq (.reg [⟨(some 129), .mv, [.t 23], none⟩,
    ⟨(some 130), (.binI .neq), [.t 129, .c (.i .i64 0)], none⟩,
    ⟨(some 131), .mv, [.t 130], none⟩,
    ⟨(some 132), .mv, [.t 14], (some (131, false))⟩,
    ⟨(some 133), (.len 0), [.t 132], (some (131, false))⟩,
    ⟨(some 134), .mv, [.t 0], (some (131, false))⟩,
    ⟨(some 135), .mv, [.t 1], (some (131, false))⟩,
    ⟨(some 136), (.binI .mul), [.t 134, .t 135], (some (131, false))⟩,
    ⟨(some 137), (.binI .neq), [.t 133, .t 136], (some (131, false))⟩,
    ⟨(some 138), .pick, [.t 131, .c (.b true), .t 137], none⟩] [1, 14, 138])
  (.cond (.t 138)
   (.seq (.reg [⟨(some 4), .mv, [.c (.b false)], none⟩] [4])
   .ret)
   .skip)))
  (.seq (.reg [⟨(some 24), .mv, [.c (.i .i64 1)], none⟩] [1, 14, 24])
  (.block 0
   l13_1)))
  .skip))
 (.seq (.reg [⟨(some 159), (.call (.pu [])), [.c (.fn 25 [] [])], none⟩,
   ⟨(some 4), .mv, [.t 159], none⟩] [4])
 .ret)))))))))))

def b14_0 : DC :=
 (.seq (.seq (.reg [⟨(some 103), .mv, [.t 16], none⟩,
   ⟨(some 104), .mv, [.t 14], none⟩,
   ⟨(some 105), (.binI .lss), [.t 103, .t 104], none⟩] [0, 1, 5, 10, 13, 14, 15, 16, 105])
 (.cond (.t 105)
  .skip
  (.exit 0)))
 (.seq (.block 1
  (.seq (.reg [⟨(some 108), .mv, [.t 15], none⟩,
    ⟨(some 109), .mv, [.t 16], none⟩,
    ⟨(some 110), (.binI .add), [.t 108, .t 109], none⟩,
    ⟨(some 17), .mv, [.t 110], none⟩] [0, 1, 5, 10, 13, 14, 15, 16, 17])
  (.seq (.seq (.reg [⟨(some 111), (.fadr 2 1 false), [.t 5], none⟩,
    ⟨(some 112), (.ld 1 false), [.t 111], none⟩] [0, 1, 5, 10, 13, 14, 15, 16, 17, 112])
  (.cond (.t 112)
   (.reg [⟨(some 113), .mv, [.t 15], none⟩,
     ⟨(some 114), .mv, [.t 14], none⟩,
     ⟨(some 115), (.binI .add), [.t 113, .t 114], none⟩,
     ⟨(some 116), .mv, [.t 16], none⟩,
     ⟨(some 117), (.binI .sub), [.t 115, .t 116], none⟩,
     ⟨(some 17), .mv, [.t 117], none⟩] [0, 1, 5, 10, 13, 14, 15, 16, 17])
   .skip))
  (.reg [⟨(some 118), .mv, [.t 13], none⟩,
    ⟨(some 119), .mv, [.t 10], none⟩,
    ⟨(some 120), .mv, [.t 17], none⟩,
    ⟨(some 121), .mv, [.t 14], none⟩,
    ⟨(some 122), (.binI .rem), [.t 120, .t 121], none⟩,
    ⟨(some 123), (.ixS 1 false), [.t 119, .t 122], none⟩,
    ⟨(some 124), (.ld 1 false), [.t 123], none⟩,
    ⟨(some 125), (.bsl false [(.i .i64 0)] false 1 [0]), [.t 124], none⟩,
    ⟨(some 126), (.app 1 false 8), [.t 118, .t 125], none⟩,
    ⟨(some 13), .mv, [.t 126], none⟩] [0, 1, 5, 10, 13, 14, 15, 16]))))
 (.reg [⟨(some 106), .mv, [.t 16], none⟩,
   ⟨(some 107), (.binI .add), [.t 106, .c (.i .i64 1)], none⟩,
   ⟨(some 16), .mv, [.t 107], none⟩] [0, 1, 5, 10, 13, 14, 15, 16])))

def l14_1 : DC :=
 (.loop [0, 1, 5, 10, 13, 14, 15, 16] b14_0)

def c14 : DC :=
 (.seq (.reg [⟨(some 5), (.box true), [.t 2], none⟩,
   ⟨(some 6), .mv, [.c (.b false)], none⟩] [0, 1, 5])
 (.seq (.reg [⟨(some 23), .mv, [.t 0], none⟩,
   ⟨(some 24), .mv, [.t 1], none⟩,
   ⟨(some 25), (.call (.pu [])), [.c (.fn 18 [] []), .t 23, .t 24], none⟩,
   ⟨(some 22), .mv, [.t 25], none⟩,
   ⟨(some 26), (.ext 0), [.t 22], none⟩,
   ⟨(some 27), (.ext 1), [.t 22], none⟩,
   ⟨(some 0), .mv, [.t 26], none⟩,
   ⟨(some 1), .mv, [.t 27], none⟩] [0, 1, 5])
 (.seq (.reg [⟨(some 28), (.fadr 0 1 false), [.t 5], none⟩,
   ⟨(some 29), (.ld 1 false), [.t 28], none⟩,
   ⟨(some 30), (.call (.pu [])), [.c (.fn 50 [] []), .t 29], none⟩,
   ⟨(some 7), .mv, [.t 30], none⟩] [0, 1, 5, 7])
 (.seq (.reg [⟨(some 32), .mv, [.t 0], none⟩,
   ⟨(some 33), .mv, [.t 1], none⟩,
   ⟨(some 34), .mv, [.t 7], none⟩,
   ⟨(some 35), (.call (.pu [])), [.c (.fn 52 [] []), .t 32, .t 33, .t 34], none⟩,
   ⟨(some 31), .mv, [.t 35], none⟩,
   ⟨(some 36), (.ext 0), [.t 31], none⟩,
   ⟨(some 37), (.ext 1), [.t 31], none⟩,
   ⟨(some 8), .mv, [.t 36], none⟩,
   ⟨(some 9), .mv, [.t 37], none⟩] [0, 1, 5, 7, 8, 9])
 (.seq (.seq (.reg [⟨(some 38), .mv, [.t 0], none⟩,
   ⟨(some 39), .mv, [.t 1], none⟩,
   ⟨(some 40), .mv, [.t 7], none⟩,
   ⟨(some 41), (.call (.pu [])), [.c (.fn 23 [] []), .t 38, .t 39, .t 40], none⟩,
   ⟨(some 42), .notB, [.t 41], none⟩,
   ⟨(some 43), .mv, [.t 42], none⟩,
   ⟨(some 44), .mv, [.t 1], (some (43, false))⟩,
   ⟨(some 45), .mv, [.t 7], (some (43, false))⟩,
   ⟨(some 46), (.call (.pu [])), [.c (.fn 24 [] []), .t 44, .t 45], (some (43, false))⟩,
   ⟨(some 47), .notB, [.t 46], (some (43, false))⟩,
   ⟨(some 48), .pick, [.t 43, .c (.b true), .t 47], none⟩] [0, 1, 5, 7, 8, 9, 48])
 (.cond (.t 48)
  (.seq (.reg [⟨(some 49), .mv, [.t 9], none⟩,
    ⟨(some 50), (.binI .neq), [.t 49, .c (.i .i64 60)], none⟩,
    ⟨(some 51), .mv, [.t 50], none⟩,
    ⟨(some 52), .mv, [.t 8], (some (51, false))⟩,
    ⟨(some 53), (.len 0), [.t 52], (some (51, false))⟩,
    ⟨(some 54), (.binI .neq), [.t 53, .c (.i .i64 0)], (some (51, false))⟩,
    ⟨(some 55), .pick, [.t 51, .c (.b true), .t 54], none⟩] [0, 1, 5, 55])
  (.cond (.t 55)
   (.seq (.reg [⟨(some 6), .mv, [.c (.b false)], none⟩] [6])
   .ret)
   .skip))
  (.seq (.reg [⟨(some 56), .mv, [.t 9], none⟩,
    ⟨(some 57), (.binI .neq), [.t 56, .c (.i .i64 0)], none⟩,
    ⟨(some 58), .mv, [.t 57], none⟩,
    ⟨(some 59), .mv, [.t 8], (some (58, false))⟩,
    ⟨(some 60), .mv, [.t 7], (some (58, false))⟩,
    ⟨(some 61), (.call (.pu [])), [.c (.fn 53 [] []), .t 60], (some (58, false))⟩,
    ⟨(some 62), (.call (.pu [])), [.c (.fn 32 [] []), .t 59, .t 61], (some (58, false))⟩,
    ⟨(some 63), .notB, [.t 62], (some (58, false))⟩,
    ⟨(some 64), .pick, [.t 58, .c (.b true), .t 63], none⟩] [0, 1, 5, 64])
  (.cond (.t 64)
   (.seq (.reg [⟨(some 6), .mv, [.c (.b false)], none⟩] [6])
   .ret)
   .skip))))
 (.seq (.reg [⟨(some 66), .mv, [.t 0], none⟩,
   ⟨(some 67), .mv, [.t 1], none⟩,
   ⟨(some 68), (.call (.pu [])), [.c (.fn 19 [] []), .t 66, .t 67], none⟩,
   ⟨(some 65), .mv, [.t 68], none⟩,
   ⟨(some 69), (.ext 0), [.t 65], none⟩,
   ⟨(some 70), (.ext 1), [.t 65], none⟩,
   ⟨(some 71), (.ext 2), [.t 65], none⟩,
   ⟨(some 10), .mv, [.t 69], none⟩,
   ⟨(some 11), .mv, [.t 70], none⟩,
   ⟨(some 12), .mv, [.t 71], none⟩] [0, 1, 5, 10, 11, 12])
 (.seq (.seq (.reg [⟨(some 72), .mv, [.t 12], none⟩,
   ⟨(some 73), (.binI .neq), [.t 72, .c (.i .i64 0)], none⟩,
   ⟨(some 74), .mv, [.t 73], none⟩,
   ⟨(some 75), .mv, [.t 11], (some (74, false))⟩,
   ⟨(some 76), .notB, [.t 75], (some (74, false))⟩,
   ⟨(some 77), .pick, [.t 74, .c (.b true), .t 76], none⟩] [0, 1, 5, 10, 12, 77])
 (.cond (.t 77)
  (.seq (.reg [⟨(some 78), .mv, [.t 12], none⟩,
    ⟨(some 79), (.binI .eql), [.t 78, .c (.i .i64 0)], none⟩,
    ⟨(some 80), .mv, [.t 79], none⟩,
    ⟨(some 81), (.call (.pu [])), [.c (.fn 25 [] [])], (some (80, true))⟩,
    ⟨(some 82), .pick, [.t 80, .t 81, .c (.b false)], none⟩,
    ⟨(some 6), .mv, [.t 82], none⟩] [6])
  .ret)
  .skip))
 (.seq (.seq (.reg [⟨(some 83), .mv, [.t 0], none⟩,
   ⟨(some 84), .mv, [.t 1], none⟩,
   ⟨(some 85), .mv, [.t 10], none⟩,
   ⟨(some 86), (.call (.pu [])), [.c (.fn 23 [] []), .t 83, .t 84, .t 85], none⟩,
   ⟨(some 87), .notB, [.t 86], none⟩,
   ⟨(some 88), .mv, [.t 87], none⟩,
   ⟨(some 89), .mv, [.t 1], (some (88, false))⟩,
   ⟨(some 90), .mv, [.t 10], (some (88, false))⟩,
   ⟨(some 91), (.call (.pu [])), [.c (.fn 24 [] []), .t 89, .t 90], (some (88, false))⟩,
   ⟨(some 92), .notB, [.t 91], (some (88, false))⟩,
   ⟨(some 93), .pick, [.t 88, .c (.b true), .t 92], none⟩] [0, 1, 5, 10, 93])
 (.cond (.t 93)
  (.seq (.reg [⟨(some 6), .mv, [.c (.b false)], none⟩] [6])
  .ret)
  .skip))
 (.seq (.reg [⟨(some 13), .mv, [.c .nilsl], none⟩] [0, 1, 5, 10, 13])
 (.seq (.reg [⟨(some 94), .mv, [.t 10], none⟩,
   ⟨(some 95), (.len 0), [.t 94], none⟩,
   ⟨(some 14), .mv, [.t 95], none⟩] [0, 1, 5, 10, 13, 14])
 (.seq (.reg [⟨(some 96), (.fadr 1 1 false), [.t 5], none⟩,
   ⟨(some 97), (.ld 1 false), [.t 96], none⟩,
   ⟨(some 98), (.conv .u64), [.t 97], none⟩,
   ⟨(some 99), .mv, [.t 14], none⟩,
   ⟨(some 100), (.conv .u64), [.t 99], none⟩,
   ⟨(some 101), (.binI .rem), [.t 98, .t 100], none⟩,
   ⟨(some 102), (.conv .i64), [.t 101], none⟩,
   ⟨(some 15), .mv, [.t 102], none⟩] [0, 1, 5, 10, 13, 14, 15])
 (.seq (.seq (.reg [⟨(some 16), .mv, [.c (.i .i64 0)], none⟩] [0, 1, 5, 10, 13, 14, 15, 16])
 (.block 0
  l14_1))
 (.seq (.reg [⟨(some 128), .mv, [.t 0], none⟩,
   ⟨(some 129), .mv, [.t 1], none⟩,
   ⟨(some 130), .mv, [.t 13], none⟩,
   ⟨(some 131), (.call (.pu [])), [.c (.fn 52 [] []), .t 128, .t 129, .t 130], none⟩,
   ⟨(some 127), .mv, [.t 131], none⟩,
   ⟨(some 132), (.ext 0), [.t 127], none⟩,
   ⟨(some 133), (.ext 1), [.t 127], none⟩,
   ⟨(some 18), .mv, [.t 132], none⟩,
   ⟨(some 19), .mv, [.t 133], none⟩] [0, 1, 10, 18, 19])
 (.seq (.reg [⟨(some 135), .mv, [.t 0], none⟩,
   ⟨(some 136), .mv, [.t 1], none⟩,
   ⟨(some 137), .mv, [.t 18], none⟩,
   ⟨(some 138), (.call (.pu [])), [.c (.fn 52 [] []), .t 135, .t 136, .t 137], none⟩,
   ⟨(some 134), .mv, [.t 138], none⟩,
   ⟨(some 139), (.ext 0), [.t 134], none⟩,
   ⟨(some 140), (.ext 1), [.t 134], none⟩,
   ⟨(some 20), .mv, [.t 139], none⟩,
   ⟨(some 21), .mv, [.t 140], none⟩] [10, 18, 19, 20, 21])
 (.seq (.reg [⟨(some 141), .mv, [.t 19], none⟩,
   ⟨(some 142), (.binI .eql), [.t 141, .c (.i .i64 0)], none⟩,
   ⟨(some 143), .mv, [.t 142], none⟩,
   ⟨(some 144), .mv, [.t 21], (some (143, true))⟩,
   ⟨(some 145), (.binI .eql), [.t 144, .c (.i .i64 0)], (some (143, true))⟩,
   ⟨(some 146), .pick, [.t 143, .t 145, .c (.b false)], none⟩,
   ⟨(some 147), .mv, [.t 146], none⟩,
   ⟨(some 148), .mv, [.t 18], (some (147, true))⟩,
   ⟨(some 149), .mv, [.t 10], (some (147, true))⟩,
   ⟨(some 150), (.call (.pu [])), [.c (.fn 53 [] []), .t 149], (some (147, true))⟩,
   ⟨(some 151), (.call (.pu [])), [.c (.fn 32 [] []), .t 148, .t 150], (some (147, true))⟩,
   ⟨(some 152), .pick, [.t 147, .t 151, .c (.b false)], none⟩,
   ⟨(some 153), .mv, [.t 152], none⟩,
   ⟨(some 154), .mv, [.t 20], (some (153, true))⟩,
   ⟨(some 155), .mv, [.t 18], (some (153, true))⟩,
   ⟨(some 156), (.call (.pu [])), [.c (.fn 32 [] []), .t 154, .t 155], (some (153, true))⟩,
   ⟨(some 157), .pick, [.t 153, .t 156, .c (.b false)], none⟩,
   ⟨(some 158), .mv, [.t 157], none⟩,
   ⟨(some 159), (.call (.pu [])), [.c (.fn 25 [] [])], (some (158, true))⟩,
   ⟨(some 160), .pick, [.t 158, .t 159, .c (.b false)], none⟩,
   ⟨(some 6), .mv, [.t 160], none⟩] [6])
 .ret)))))))))))))))

def c15 : DC :=
 (.seq (.reg [⟨(some 4), .mv, [.c (.b false)], none⟩] [0, 1])
 (.seq (.reg [⟨(some 9), .mv, [.t 0], none⟩,
   ⟨(some 10), .mv, [.t 1], none⟩,
   ⟨(some 11), (.call (.pu [])), [.c (.fn 18 [] []), .t 9, .t 10], none⟩,
   ⟨(some 8), .mv, [.t 11], none⟩,
   ⟨(some 12), (.ext 0), [.t 8], none⟩,
   ⟨(some 13), (.ext 1), [.t 8], none⟩,
   ⟨(some 0), .mv, [.t 12], none⟩,
   ⟨(some 1), .mv, [.t 13], none⟩] [0, 1])
 (.seq (.reg [⟨(some 15), .mv, [.t 0], none⟩,
   ⟨(some 16), .mv, [.t 1], none⟩,
   ⟨(some 17), (.call (.pu [])), [.c (.fn 54 [] []), .t 15, .t 16], none⟩,
   ⟨(some 14), .mv, [.t 17], none⟩,
   ⟨(some 18), (.ext 0), [.t 14], none⟩,
   ⟨(some 19), (.ext 1), [.t 14], none⟩,
   ⟨(some 20), (.ext 2), [.t 14], none⟩,
   ⟨(some 5), .mv, [.t 18], none⟩,
   ⟨(some 6), .mv, [.t 19], none⟩,
   ⟨(some 7), .mv, [.t 20], none⟩] [0, 1, 5, 6, 7])
 (.seq (.seq (.reg [⟨(some 21), .mv, [.t 0], none⟩,
   ⟨(some 22), .mv, [.t 1], none⟩,
   ⟨(some 23), (.binI .mul), [.t 21, .t 22], none⟩,
   ⟨(some 24), (.binI .gtr), [.t 23, .c (.i .i64 20)], none⟩] [0, 1, 5, 6, 7, 24])
 (.cond (.t 24)
  (.seq (.reg [⟨(some 25), .mv, [.t 7], none⟩,
    ⟨(some 26), (.binI .eql), [.t 25, .c (.i .i64 1)], none⟩,
    ⟨(some 27), .mv, [.t 26], none⟩,
    ⟨(some 28), .mv, [.t 5], (some (27, true))⟩,
    ⟨(some 29), (.binI .eql), [.t 28, .c (.i .i64 0)], (some (27, true))⟩,
    ⟨(some 30), .pick, [.t 27, .t 29, .c (.b false)], none⟩,
    ⟨(some 31), .mv, [.t 30], none⟩,
    ⟨(some 32), .mv, [.t 6], (some (31, true))⟩,
    ⟨(some 33), (.binI .eql), [.t 32, .c (.i .i64 0)], (some (31, true))⟩,
    ⟨(some 34), .pick, [.t 31, .t 33, .c (.b false)], none⟩,
    ⟨(some 35), .mv, [.t 34], none⟩,
    ⟨(some 36), (.call (.pu [])), [.c (.fn 25 [] [])], (some (35, true))⟩,
    ⟨(some 37), .pick, [.t 35, .t 36, .c (.b false)], none⟩,
    ⟨(some 4), .mv, [.t 37], none⟩] [4])
  .ret)
  .skip))
 (.seq (.seq (.reg [⟨(some 38), .mv, [.t 7], none⟩,
   ⟨(some 39), (.binI .neq), [.t 38, .c (.i .i64 0)], none⟩,
   ⟨(some 40), .mv, [.t 39], none⟩,
   ⟨(some 41), .mv, [.t 5], (some (40, false))⟩,
   ⟨(some 42), (.binI .lss), [.t 41, .c (.i .i64 0)], (some (40, false))⟩,
   ⟨(some 43), .pick, [.t 40, .c (.b true), .t 42], none⟩,
   ⟨(some 44), .mv, [.t 43], none⟩,
   ⟨(some 45), .mv, [.t 5], (some (44, false))⟩,
   ⟨(some 46), .mv, [.t 0], (some (44, false))⟩,
   ⟨(some 47), .mv, [.t 1], (some (44, false))⟩,
   ⟨(some 48), (.binI .mul), [.t 46, .t 47], (some (44, false))⟩,
   ⟨(some 49), (.binI .shl), [.c (.i .i64 1), .t 48], (some (44, false))⟩,
   ⟨(some 50), (.binI .geq), [.t 45, .t 49], (some (44, false))⟩,
   ⟨(some 51), .pick, [.t 44, .c (.b true), .t 50], none⟩,
   ⟨(some 52), .mv, [.t 51], none⟩,
   ⟨(some 53), .mv, [.t 0], (some (52, false))⟩,
   ⟨(some 54), .mv, [.t 1], (some (52, false))⟩,
   ⟨(some 55), .mv, [.t 5], (some (52, false))⟩,
   ⟨(some 56), (.call (.pu [])), [.c (.fn 55 [] []), .t 53, .t 54, .t 55], (some (52, false))⟩,
   ⟨(some 57), .notB, [.t 56], (some (52, false))⟩,
   ⟨(some 58), .pick, [.t 52, .c (.b true), .t 57], none⟩,
   ⟨(some 59), .mv, [.t 58], none⟩,
   ⟨(some 60), .mv, [.t 5], (some (59, false))⟩,
   ⟨(some 61), (.call (.pu [])), [.c (.fn 48 [] []), .t 60], (some (59, false))⟩,
   ⟨(some 62), .mv, [.t 6], (some (59, false))⟩,
   ⟨(some 63), (.binI .neq), [.t 61, .t 62], (some (59, false))⟩,
   ⟨(some 64), .pick, [.t 59, .c (.b true), .t 63], none⟩] [0, 1, 6, 64])
 (.cond (.t 64)
  (.seq (.reg [⟨(some 4), .mv, [.c (.b false)], none⟩] [4])
  .ret)
  .skip))
 (.seq (.reg [⟨(some 65), .mv, [.t 0], none⟩,
   ⟨(some 66), .mv, [.t 1], none⟩,
   ⟨(some 67), (.binI .mul), [.t 65, .t 66], none⟩,
   ⟨(some 68), (.binI .gtr), [.t 67, .c (.i .i64 16)], none⟩,
   ⟨(some 69), .mv, [.t 68], none⟩,
   ⟨(some 70), .mv, [.t 6], (some (69, false))⟩,
   ⟨(some 71), .mv, [.t 0], (some (69, false))⟩,
   ⟨(some 72), .mv, [.t 1], (some (69, false))⟩,
   ⟨(some 73), (.call (.pu [])), [.c (.fn 56 [] []), .t 71, .t 72], (some (69, false))⟩,
   ⟨(some 74), (.binI .eql), [.t 70, .t 73], (some (69, false))⟩,
   ⟨(some 75), .pick, [.t 69, .c (.b true), .t 74], none⟩,
   ⟨(some 76), .mv, [.t 75], none⟩,
   ⟨(some 77), (.call (.pu [])), [.c (.fn 25 [] [])], (some (76, true))⟩,
   ⟨(some 78), .pick, [.t 76, .t 77, .c (.b false)], none⟩,
   ⟨(some 4), .mv, [.t 78], none⟩] [4])
 .ret))))))

def d15 : DFun := ⟨2, 79, c15, [.t 4]⟩

theorem ok15 : Fok Tryd.prog 15 d15 := ⟨Tryd.f15, Tryd.func15, by kernel_rfl, by kernel_rfl⟩

-- bibelot/bibelotlaw06.KnightOwn
def b16_0 : DC :=
 (.seq (.seq (.reg [⟨(some 63), .mv, [.t 16], none⟩,
   ⟨(some 64), .mv, [.t 9], none⟩,
   ⟨(some 65), (.len 0), [.t 64], none⟩,
   ⟨(some 66), (.binI .lss), [.t 63, .t 65], none⟩] [0, 1, 7, 8, 9, 10, 11, 12, 13, 14, 15, 16, 66])
 (.cond (.t 66)
  .skip
  (.exit 0)))
 (.seq (.block 1
  (.reg [⟨(some 69), .mv, [.t 9], none⟩,
    ⟨(some 70), .mv, [.t 16], none⟩,
    ⟨(some 71), (.ixS 1 false), [.t 69, .t 70], none⟩,
    ⟨none, (.st 1), [.t 71, .c (.i .i64 (-1))], none⟩] [0, 1, 7, 8, 9, 10, 11, 12, 13, 14, 15, 16]))
 (.reg [⟨(some 67), .mv, [.t 16], none⟩,
   ⟨(some 68), (.binI .add), [.t 67, .c (.i .i64 1)], none⟩,
   ⟨(some 16), .mv, [.t 68], none⟩] [0, 1, 7, 8, 9, 10, 11, 12, 13, 14, 15, 16])))

def l16_1 : DC :=
 (.loop [0, 1, 7, 8, 9, 10, 11, 12, 13, 14, 15, 16] b16_0)

def b16_2 : DC :=
 (.seq (.seq (.reg [⟨(some 72), .mv, [.t 17], none⟩,
   ⟨(some 73), .mv, [.t 11], none⟩,
   ⟨(some 74), (.len 0), [.t 73], none⟩,
   ⟨(some 75), (.binI .lss), [.t 72, .t 74], none⟩] [0, 1, 7, 8, 10, 11, 12, 13, 14, 15, 17, 75])
 (.cond (.t 75)
  .skip
  (.exit 2)))
 (.seq (.block 3
  (.reg [⟨(some 78), .mv, [.t 11], none⟩,
    ⟨(some 79), .mv, [.t 17], none⟩,
    ⟨(some 80), (.build [(.i .i64 0), (.i .i64 0)] [(0, 1), (1, 1)]), [.c (.i .i64 (-1)), .c (.i .i64 (-1))], none⟩,
    ⟨(some 81), (.ixS 2 true), [.t 78, .t 79], none⟩,
    ⟨none, (.st 2), [.t 81, .t 80], none⟩] [0, 1, 7, 8, 10, 11, 12, 13, 14, 15, 17]))
 (.reg [⟨(some 76), .mv, [.t 17], none⟩,
   ⟨(some 77), (.binI .add), [.t 76, .c (.i .i64 1)], none⟩,
   ⟨(some 17), .mv, [.t 77], none⟩] [0, 1, 7, 8, 10, 11, 12, 13, 14, 15, 17])))

def l16_3 : DC :=
 (.loop [0, 1, 7, 8, 10, 11, 12, 13, 14, 15, 17] b16_2)

def b16_4 : DC :=
 (.seq (.seq (.reg [⟨(some 82), .mv, [.t 18], none⟩,
   ⟨(some 83), .mv, [.t 13], none⟩,
   ⟨(some 84), (.len 0), [.t 83], none⟩,
   ⟨(some 85), (.binI .lss), [.t 82, .t 84], none⟩] [0, 1, 7, 8, 10, 12, 13, 14, 15, 18, 85])
 (.cond (.t 85)
  .skip
  (.exit 4)))
 (.seq (.block 5
  (.reg [⟨(some 88), .mv, [.t 13], none⟩,
    ⟨(some 89), .mv, [.t 18], none⟩,
    ⟨(some 90), (.ixS 1 false), [.t 88, .t 89], none⟩,
    ⟨none, (.st 1), [.t 90, .c (.i .i64 (-1))], none⟩] [0, 1, 7, 8, 10, 12, 13, 14, 15, 18]))
 (.reg [⟨(some 86), .mv, [.t 18], none⟩,
   ⟨(some 87), (.binI .add), [.t 86, .c (.i .i64 1)], none⟩,
   ⟨(some 18), .mv, [.t 87], none⟩] [0, 1, 7, 8, 10, 12, 13, 14, 15, 18])))

def l16_5 : DC :=
 (.loop [0, 1, 7, 8, 10, 12, 13, 14, 15, 18] b16_4)

def c16 : DC :=
 (.seq (.reg [⟨(some 6), .mv, [.c (.b false)], none⟩] [0, 1, 2])
 (.seq (.reg [⟨(some 27), .mv, [.t 0], none⟩,
   ⟨(some 28), .mv, [.t 1], none⟩,
   ⟨(some 29), (.call (.pu [])), [.c (.fn 18 [] []), .t 27, .t 28], none⟩,
   ⟨(some 26), .mv, [.t 29], none⟩,
   ⟨(some 30), (.ext 0), [.t 26], none⟩,
   ⟨(some 31), (.ext 1), [.t 26], none⟩,
   ⟨(some 0), .mv, [.t 30], none⟩,
   ⟨(some 1), .mv, [.t 31], none⟩] [0, 1, 2])
 (.seq (.reg [⟨(some 32), .mv, [.t 2], none⟩,
   ⟨(some 33), (.call (.pu [])), [.c (.fn 50 [] []), .t 32], none⟩,
   ⟨(some 7), .mv, [.t 33], none⟩] [0, 1, 7])
 (.seq (.reg [⟨(some 34), .mv, [.t 7], none⟩,
   ⟨(some 35), (.call (.pu [])), [.c (.fn 50 [] []), .t 34], none⟩,
   ⟨(some 8), .mv, [.t 35], none⟩] [0, 1, 7, 8])
 (.seq (.reg [⟨(some 36), .mv, [.t 0], none⟩,
   ⟨(some 37), .mv, [.t 1], none⟩,
   ⟨(some 38), .mv, [.t 7], none⟩,
   ⟨(some 39), (.call (.pu [])), [.c (.fn 51 [] []), .t 36, .t 37, .t 38], none⟩] [0, 1, 7, 8])
 (.seq (.reg [⟨(some 40), .mv, [.t 0], none⟩,
   ⟨(some 41), .mv, [.t 1], none⟩,
   ⟨(some 42), .mv, [.t 7], none⟩,
   ⟨(some 43), (.call (.pu [])), [.c (.fn 52 [] []), .t 40, .t 41, .t 42], none⟩] [0, 1, 7, 8])
 (.seq (.reg [⟨(some 45), .mv, [.t 0], none⟩,
   ⟨(some 46), .mv, [.t 1], none⟩,
   ⟨(some 47), (.call .sh), [.c (.fn 28 [] []), .t 45, .t 46, .c (.i .i64 0)], none⟩,
   ⟨(some 44), .mv, [.t 47], none⟩,
   ⟨(some 48), (.ext 0), [.t 44], none⟩,
   ⟨(some 49), (.ext 1), [.t 44], none⟩,
   ⟨(some 9), .mv, [.t 48], none⟩,
   ⟨(some 10), .mv, [.t 49], none⟩] [0, 1, 7, 8, 9, 10])
 (.seq (.reg [⟨(some 51), .mv, [.t 0], none⟩,
   ⟨(some 52), .mv, [.t 1], none⟩,
   ⟨(some 53), (.call .sh), [.c (.fn 46 [] []), .t 51, .t 52], none⟩,
   ⟨(some 50), .mv, [.t 53], none⟩,
   ⟨(some 54), (.ext 0), [.t 50], none⟩,
   ⟨(some 55), (.ext 1), [.t 50], none⟩,
   ⟨(some 11), .mv, [.t 54], none⟩,
   ⟨(some 12), .mv, [.t 55], none⟩] [0, 1, 7, 8, 9, 10, 11, 12])
 (.seq (.reg [⟨(some 57), .mv, [.t 0], none⟩,
   ⟨(some 58), .mv, [.t 1], none⟩,
   ⟨(some 59), (.call .sh), [.c (.fn 20 [] []), .t 57, .t 58], none⟩,
   ⟨(some 56), .mv, [.t 59], none⟩,
   ⟨(some 60), (.ext 0), [.t 56], none⟩,
   ⟨(some 61), (.ext 1), [.t 56], none⟩,
   ⟨(some 62), (.ext 2), [.t 56], none⟩,
   ⟨(some 13), .mv, [.t 60], none⟩,
   ⟨(some 14), .mv, [.t 61], none⟩,
   ⟨(some 15), .mv, [.t 62], none⟩] [0, 1, 7, 8, 9, 10, 11, 12, 13, 14, 15])
 (.seq (.seq (.reg [⟨(some 16), .mv, [.c (.i .i64 0)], none⟩] [0, 1, 7, 8, 9, 10, 11, 12, 13, 14, 15, 16])
 (.block 0
  l16_1))
 (.seq (.seq (.reg [⟨(some 17), .mv, [.c (.i .i64 0)], none⟩] [0, 1, 7, 8, 10, 11, 12, 13, 14, 15, 17])
 (.block 2
  l16_3))
 (.seq (.seq (.reg [⟨(some 18), .mv, [.c (.i .i64 0)], none⟩] [0, 1, 7, 8, 10, 12, 13, 14, 15, 18])
 (.block 4
  l16_5))
 (.seq (.reg [⟨(some 92), .mv, [.t 0], none⟩,
   ⟨(some 93), .mv, [.t 1], none⟩,
   ⟨(some 94), (.call .sh), [.c (.fn 28 [] []), .t 92, .t 93, .c (.i .i64 0)], none⟩,
   ⟨(some 91), .mv, [.t 94], none⟩,
   ⟨(some 95), (.ext 0), [.t 91], none⟩,
   ⟨(some 96), (.ext 1), [.t 91], none⟩,
   ⟨(some 19), .mv, [.t 95], none⟩,
   ⟨(some 20), .mv, [.t 96], none⟩] [0, 1, 7, 8, 10, 12, 14, 15, 19, 20])
 (.seq (.reg [⟨(some 98), .mv, [.t 0], none⟩,
   ⟨(some 99), .mv, [.t 1], none⟩,
   ⟨(some 100), (.call .sh), [.c (.fn 46 [] []), .t 98, .t 99], none⟩,
   ⟨(some 97), .mv, [.t 100], none⟩,
   ⟨(some 101), (.ext 0), [.t 97], none⟩,
   ⟨(some 102), (.ext 1), [.t 97], none⟩,
   ⟨(some 21), .mv, [.t 101], none⟩,
   ⟨(some 22), .mv, [.t 102], none⟩] [0, 1, 7, 8, 10, 12, 14, 15, 19, 20, 21, 22])
 (.seq (.reg [⟨(some 104), .mv, [.t 0], none⟩,
   ⟨(some 105), .mv, [.t 1], none⟩,
   ⟨(some 106), (.call .sh), [.c (.fn 20 [] []), .t 104, .t 105], none⟩,
   ⟨(some 103), .mv, [.t 106], none⟩,
   ⟨(some 107), (.ext 0), [.t 103], none⟩,
   ⟨(some 108), (.ext 1), [.t 103], none⟩,
   ⟨(some 109), (.ext 2), [.t 103], none⟩,
   ⟨(some 23), .mv, [.t 107], none⟩,
   ⟨(some 24), .mv, [.t 108], none⟩,
   ⟨(some 25), .mv, [.t 109], none⟩] [0, 1, 7, 8, 10, 12, 14, 15, 19, 20, 21, 22, 23, 24, 25])
 (.seq (.reg [⟨(some 110), .mv, [.t 10], none⟩,
   ⟨(some 111), (.binI .eql), [.t 110, .c (.i .i64 0)], none⟩,
   ⟨(some 112), .mv, [.t 111], none⟩,
   ⟨(some 113), .mv, [.t 12], (some (112, true))⟩,
   ⟨(some 114), (.binI .eql), [.t 113, .c (.i .i64 0)], (some (112, true))⟩,
   ⟨(some 115), .pick, [.t 112, .t 114, .c (.b false)], none⟩,
   ⟨(some 116), .mv, [.t 115], none⟩,
   ⟨(some 117), .mv, [.t 15], (some (116, true))⟩,
   ⟨(some 118), (.binI .eql), [.t 117, .c (.i .i64 0)], (some (116, true))⟩,
   ⟨(some 119), .pick, [.t 116, .t 118, .c (.b false)], none⟩,
   ⟨(some 120), .mv, [.t 119], none⟩,
   ⟨(some 121), .mv, [.t 20], (some (120, true))⟩,
   ⟨(some 122), (.binI .eql), [.t 121, .c (.i .i64 0)], (some (120, true))⟩,
   ⟨(some 123), .pick, [.t 120, .t 122, .c (.b false)], none⟩,
   ⟨(some 124), .mv, [.t 123], none⟩,
   ⟨(some 125), .mv, [.t 22], (some (124, true))⟩,
   ⟨(some 126), (.binI .eql), [.t 125, .c (.i .i64 0)], (some (124, true))⟩,
   ⟨(some 127), .pick, [.t 124, .t 126, .c (.b false)], none⟩,
   ⟨(some 128), .mv, [.t 127], none⟩,
   ⟨(some 129), .mv, [.t 25], (some (128, true))⟩,
   ⟨(some 130), (.binI .eql), [.t 129, .c (.i .i64 0)], (some (128, true))⟩,
   ⟨(some 131), .pick, [.t 128, .t 130, .c (.b false)], none⟩,
   ⟨(some 132), .mv, [.t 131], none⟩,
   ⟨(some 133), .mv, [.t 7], (some (132, true))⟩,
   ⟨(some 134), .mv, [.t 8], (some (132, true))⟩,
   ⟨(some 135), (.call (.pu [])), [.c (.fn 32 [] []), .t 133, .t 134], (some (132, true))⟩,
   ⟨(some 136), .pick, [.t 132, .t 135, .c (.b false)], none⟩,
   ⟨(some 137), .mv, [.t 136], none⟩,
   ⟨(some 138), .mv, [.t 19], (some (137, true))⟩,
   ⟨(some 139), .mv, [.t 0], (some (137, true))⟩,
   ⟨(some 140), .mv, [.t 1], (some (137, true))⟩,
   ⟨(some 141), (.call (.pu [])), [.c (.fn 33 [] []), .t 139, .t 140, .c (.i .i64 0)], (some (137, true))⟩,
   ⟨(some 142), (.call (.pu [])), [.c (.fn 32 [] []), .t 138, .t 141], (some (137, true))⟩,
   ⟨(some 143), .pick, [.t 137, .t 142, .c (.b false)], none⟩,
   ⟨(some 144), .mv, [.t 143], none⟩,
   ⟨(some 145), .mv, [.t 0], (some (144, true))⟩,
   ⟨(some 146), .mv, [.t 1], (some (144, true))⟩,
   ⟨(some 147), .mv, [.t 21], (some (144, true))⟩,
   ⟨(some 148), (.call (.pu [])), [.c (.fn 49 [] []), .t 145, .t 146, .t 147], (some (144, true))⟩,
   ⟨(some 149), .pick, [.t 144, .t 148, .c (.b false)], none⟩,
   ⟨(some 150), .mv, [.t 149], none⟩,
   ⟨(some 151), .mv, [.t 14], (some (150, true))⟩,
   ⟨(some 152), .mv, [.t 24], (some (150, true))⟩,
   ⟨(some 153), (.eqB false), [.t 151, .t 152], (some (150, true))⟩,
   ⟨(some 154), .pick, [.t 150, .t 153, .c (.b false)], none⟩,
   ⟨(some 155), .mv, [.t 154], none⟩,
   ⟨(some 156), .mv, [.t 24], (some (155, true))⟩,
   ⟨(some 157), .notB, [.t 156], (some (155, true))⟩,
   ⟨(some 158), .mv, [.t 157], (some (155, true))⟩,
   ⟨(some 159), .mv, [.t 0], (some (158, false))⟩,
   ⟨(some 160), .mv, [.t 1], (some (158, false))⟩,
   ⟨(some 161), .mv, [.t 23], (some (158, false))⟩,
   ⟨(some 162), (.call (.pu [])), [.c (.fn 23 [] []), .t 159, .t 160, .t 161], (some (158, false))⟩,
   ⟨(some 163), .pick, [.t 158, .c (.b true), .t 162], (some (155, true))⟩,
   ⟨(some 164), .pick, [.t 155, .t 163, .c (.b false)], none⟩,
   ⟨(some 165), .mv, [.t 164], none⟩,
   ⟨(some 166), (.call (.pu [])), [.c (.fn 25 [] [])], (some (165, true))⟩,
   ⟨(some 167), .pick, [.t 165, .t 166, .c (.b false)], none⟩,
   ⟨(some 6), .mv, [.t 167], none⟩] [6])
 .ret))))))))))))))))

def d16 : DFun := ⟨3, 168, c16, [.t 6]⟩

def c17 : DC :=
 (.seq (.reg [⟨(some 6), .mv, [.c (.b false)], none⟩] [0, 1, 2])
 (.seq (.reg [⟨(some 47), .mv, [.t 0], none⟩,
   ⟨(some 48), .mv, [.t 1], none⟩,
   ⟨(some 49), (.call (.pu [])), [.c (.fn 57 [] []), .t 47, .t 48], none⟩,
   ⟨(some 7), .mv, [.t 49], none⟩] [0, 1, 2, 7])
 (.seq (.seq (.reg [⟨(some 50), .mv, [.t 0], none⟩,
   ⟨(some 51), .mv, [.t 1], none⟩,
   ⟨(some 52), (.call (.pu [])), [.c (.fn 58 [] []), .t 50, .t 51], none⟩,
   ⟨(some 53), (.binI .eql), [.t 52, .c (.i .i64 0)], none⟩,
   ⟨(some 54), .mv, [.t 7], none⟩,
   ⟨(some 55), (.eqB true), [.t 53, .t 54], none⟩] [0, 1, 2, 7, 55])
 (.cond (.t 55)
  (.seq (.reg [⟨(some 6), .mv, [.c (.b false)], none⟩] [6])
  .ret)
  .skip))
 (.seq (.reg [⟨(some 8), .mv, [.c (.i .i64 1)], none⟩] [0, 1, 2, 7, 8])
 (.seq (.seq (.reg [⟨(some 56), .mv, [.t 7], none⟩,
   ⟨(some 57), .notB, [.t 56], none⟩] [0, 1, 2, 7, 8, 57])
 (.cond (.t 57)
  (.seq (.reg [⟨(some 59), .mv, [.t 0], none⟩,
    ⟨(some 60), .mv, [.t 1], none⟩,
    ⟨(some 61), (.bsl false [(.i .i64 0)] false 1 [0]), [.c (.i .i64 0)], none⟩,
    ⟨(some 62), (.call (.pu [])), [.c (.fn 51 [] []), .t 59, .t 60, .t 61], none⟩,
    ⟨(some 58), .mv, [.t 62], none⟩,
    ⟨(some 63), (.ext 0), [.t 58], none⟩,
    ⟨(some 64), (.ext 1), [.t 58], none⟩,
    ⟨(some 9), .mv, [.t 63], none⟩,
    ⟨(some 10), .mv, [.t 64], none⟩] [0, 1, 2, 7, 8, 9, 10])
  (.seq (.reg [⟨(some 66), .mv, [.t 0], none⟩,
    ⟨(some 67), .mv, [.t 1], none⟩,
    ⟨(some 68), (.call (.pu [])), [.c (.fn 19 [] []), .t 66, .t 67], none⟩,
    ⟨(some 65), .mv, [.t 68], none⟩,
    ⟨(some 69), (.ext 0), [.t 65], none⟩,
    ⟨(some 70), (.ext 1), [.t 65], none⟩,
    ⟨(some 71), (.ext 2), [.t 65], none⟩,
    ⟨(some 11), .mv, [.t 69], none⟩,
    ⟨(some 12), .mv, [.t 70], none⟩,
    ⟨(some 13), .mv, [.t 71], none⟩] [0, 1, 2, 7, 8, 9, 10, 12, 13])
  (.seq (.reg [⟨(some 73), .mv, [.t 0], none⟩,
    ⟨(some 74), .mv, [.t 1], none⟩,
    ⟨(some 75), (.call (.pu [])), [.c (.fn 20 [] []), .t 73, .t 74], none⟩,
    ⟨(some 72), .mv, [.t 75], none⟩,
    ⟨(some 76), (.ext 0), [.t 72], none⟩,
    ⟨(some 77), (.ext 1), [.t 72], none⟩,
    ⟨(some 78), (.ext 2), [.t 72], none⟩,
    ⟨(some 14), .mv, [.t 76], none⟩,
    ⟨(some 15), .mv, [.t 77], none⟩,
    ⟨(some 16), .mv, [.t 78], none⟩] [0, 1, 2, 7, 8, 9, 10, 12, 13, 15, 16])
  (.seq (.reg [⟨(some 80), .mv, [.t 0], none⟩,
    ⟨(some 81), .mv, [.t 1], none⟩,
    ⟨(some 82), (.call (.pu [])), [.c (.fn 35 [] []), .t 80, .t 81], none⟩,
    ⟨(some 79), .mv, [.t 82], none⟩,
    ⟨(some 83), (.ext 0), [.t 79], none⟩,
    ⟨(some 84), (.ext 1), [.t 79], none⟩,
    ⟨(some 85), (.ext 2), [.t 79], none⟩,
    ⟨(some 17), .mv, [.t 83], none⟩,
    ⟨(some 18), .mv, [.t 84], none⟩,
    ⟨(some 19), .mv, [.t 85], none⟩] [0, 1, 2, 7, 8, 9, 10, 12, 13, 15, 16, 17, 18, 19])
  (.seq (.reg [⟨(some 87), .mv, [.t 0], none⟩,
    ⟨(some 88), .mv, [.t 1], none⟩,
    ⟨(some 89), (.bsl false [(.i .i64 0)] false 1 [0]), [.c (.i .i64 0)], none⟩,
    ⟨(some 90), (.call (.pu [])), [.c (.fn 52 [] []), .t 87, .t 88, .t 89], none⟩,
    ⟨(some 86), .mv, [.t 90], none⟩,
    ⟨(some 91), (.ext 0), [.t 86], none⟩,
    ⟨(some 92), (.ext 1), [.t 86], none⟩,
    ⟨(some 20), .mv, [.t 91], none⟩,
    ⟨(some 21), .mv, [.t 92], none⟩] [0, 1, 2, 7, 8, 9, 10, 12, 13, 15, 16, 17, 18, 19, 20, 21])
  (.seq (.reg [⟨(some 94), .mv, [.t 0], none⟩,
    ⟨(some 95), .mv, [.t 1], none⟩,
    ⟨(some 96), (.call (.pu [])), [.c (.fn 45 [] []), .t 94, .t 95], none⟩,
    ⟨(some 93), .mv, [.t 96], none⟩,
    ⟨(some 97), (.ext 0), [.t 93], none⟩,
    ⟨(some 98), (.ext 1), [.t 93], none⟩,
    ⟨(some 99), (.ext 2), [.t 93], none⟩,
    ⟨(some 22), .mv, [.t 97], none⟩,
    ⟨(some 23), .mv, [.t 98], none⟩,
    ⟨(some 24), .mv, [.t 99], none⟩] [0, 1, 2, 7, 8, 9, 10, 12, 13, 15, 16, 17, 18, 19, 20, 21, 22, 23, 24])
  (.seq (.reg [⟨(some 101), .mv, [.t 0], none⟩,
    ⟨(some 102), .mv, [.t 1], none⟩,
    ⟨(some 103), (.call (.pu [])), [.c (.fn 46 [] []), .t 101, .t 102], none⟩,
    ⟨(some 100), .mv, [.t 103], none⟩,
    ⟨(some 104), (.ext 0), [.t 100], none⟩,
    ⟨(some 105), (.ext 1), [.t 100], none⟩,
    ⟨(some 25), .mv, [.t 104], none⟩,
    ⟨(some 26), .mv, [.t 105], none⟩] [0, 1, 2, 7, 8, 9, 10, 12, 13, 15, 16, 17, 18, 19, 20, 21, 22, 23, 24, 25, 26])
  (.seq (.reg [⟨(some 107), .mv, [.t 0], none⟩,
    ⟨(some 108), .mv, [.t 1], none⟩,
    ⟨(some 109), (.call (.pu [])), [.c (.fn 54 [] []), .t 107, .t 108], none⟩,
    ⟨(some 106), .mv, [.t 109], none⟩,
    ⟨(some 110), (.ext 0), [.t 106], none⟩,
    ⟨(some 111), (.ext 1), [.t 106], none⟩,
    ⟨(some 112), (.ext 2), [.t 106], none⟩,
    ⟨(some 27), .mv, [.t 110], none⟩,
    ⟨(some 28), .mv, [.t 111], none⟩,
    ⟨(some 29), .mv, [.t 112], none⟩] [0, 1, 2, 7, 8, 9, 10, 12, 13, 15, 16, 17, 18, 19, 20, 21, 22, 23, 24, 25, 26, 27, 28, 29])
  (.seq (.reg [⟨(some 113), .mv, [.t 0], none⟩,
    ⟨(some 114), .mv, [.t 1], none⟩,
    ⟨(some 115), (.call (.pu [])), [.c (.fn 58 [] []), .t 113, .t 114], none⟩,
    ⟨(some 116), .mv, [.t 8], none⟩,
    ⟨(some 117), (.binI .neq), [.t 115, .t 116], none⟩,
    ⟨(some 118), .mv, [.t 117], none⟩,
    ⟨(some 119), .mv, [.t 10], (some (118, false))⟩,
    ⟨(some 120), .mv, [.t 8], (some (118, false))⟩,
    ⟨(some 121), (.binI .neq), [.t 119, .t 120], (some (118, false))⟩,
    ⟨(some 122), .pick, [.t 118, .c (.b true), .t 121], none⟩,
    ⟨(some 123), .mv, [.t 122], none⟩,
    ⟨(some 124), .mv, [.t 13], (some (123, false))⟩,
    ⟨(some 125), .mv, [.t 8], (some (123, false))⟩,
    ⟨(some 126), (.binI .neq), [.t 124, .t 125], (some (123, false))⟩,
    ⟨(some 127), .pick, [.t 123, .c (.b true), .t 126], none⟩,
    ⟨(some 128), .mv, [.t 127], none⟩,
    ⟨(some 129), .mv, [.t 16], (some (128, false))⟩,
    ⟨(some 130), .mv, [.t 8], (some (128, false))⟩,
    ⟨(some 131), (.binI .neq), [.t 129, .t 130], (some (128, false))⟩,
    ⟨(some 132), .pick, [.t 128, .c (.b true), .t 131], none⟩,
    ⟨(some 133), .mv, [.t 132], none⟩,
    ⟨(some 134), .mv, [.t 19], (some (133, false))⟩,
    ⟨(some 135), .mv, [.t 8], (some (133, false))⟩,
    ⟨(some 136), (.binI .neq), [.t 134, .t 135], (some (133, false))⟩,
    ⟨(some 137), .pick, [.t 133, .c (.b true), .t 136], none⟩,
    ⟨(some 138), .mv, [.t 137], none⟩,
    ⟨(some 139), .mv, [.t 21], (some (138, false))⟩,
    ⟨(some 140), .mv, [.t 8], (some (138, false))⟩,
    ⟨(some 141), (.binI .neq), [.t 139, .t 140], (some (138, false))⟩,
    ⟨(some 142), .pick, [.t 138, .c (.b true), .t 141], none⟩,
    ⟨(some 143), .mv, [.t 142], none⟩,
    ⟨(some 144), .mv, [.t 24], (some (143, false))⟩,
    ⟨(some 145), .mv, [.t 8], (some (143, false))⟩,
    ⟨(some 146), (.binI .neq), [.t 144, .t 145], (some (143, false))⟩,
    ⟨(some 147), .pick, [.t 143, .c (.b true), .t 146], none⟩,
    ⟨(some 148), .mv, [.t 147], none⟩,
    ⟨(some 149), .mv, [.t 26], (some (148, false))⟩,
    ⟨(some 150), .mv, [.t 8], (some (148, false))⟩,
    ⟨(some 151), (.binI .neq), [.t 149, .t 150], (some (148, false))⟩,
    ⟨(some 152), .pick, [.t 148, .c (.b true), .t 151], none⟩,
    ⟨(some 153), .mv, [.t 152], none⟩,
    ⟨(some 154), .mv, [.t 29], (some (153, false))⟩,
    ⟨(some 155), .mv, [.t 8], (some (153, false))⟩,
    ⟨(some 156), (.binI .neq), [.t 154, .t 155], (some (153, false))⟩,
    ⟨(some 157), .pick, [.t 153, .c (.b true), .t 156], none⟩,
    ⟨(some 158), .mv, [.t 157], none⟩,
    ⟨(some 159), .mv, [.t 9], (some (158, false))⟩,
    ⟨(some 160), .pick, [.t 158, .c (.b true), .t 159], none⟩,
    ⟨(some 161), .mv, [.t 160], none⟩,
    ⟨(some 162), .mv, [.t 12], (some (161, false))⟩,
    ⟨(some 163), .pick, [.t 161, .c (.b true), .t 162], none⟩,
    ⟨(some 164), .mv, [.t 163], none⟩,
    ⟨(some 165), .mv, [.t 15], (some (164, false))⟩,
    ⟨(some 166), .pick, [.t 164, .c (.b true), .t 165], none⟩,
    ⟨(some 167), .mv, [.t 166], none⟩,
    ⟨(some 168), .mv, [.t 18], (some (167, false))⟩,
    ⟨(some 169), .pick, [.t 167, .c (.b true), .t 168], none⟩,
    ⟨(some 170), .mv, [.t 169], none⟩,
    ⟨(some 171), .mv, [.t 17], (some (170, false))⟩,
    ⟨(some 172), .mv, [.t 22], (some (170, false))⟩,
    ⟨(some 173), (.binI .add), [.t 171, .t 172], (some (170, false))⟩,
    ⟨(some 174), .mv, [.t 23], (some (170, false))⟩,
    ⟨(some 175), (.binI .add), [.t 173, .t 174], (some (170, false))⟩,
    ⟨(some 176), .mv, [.t 27], (some (170, false))⟩,
    ⟨(some 177), (.binI .add), [.t 175, .t 176], (some (170, false))⟩,
    ⟨(some 178), .mv, [.t 28], (some (170, false))⟩,
    ⟨(some 179), (.binI .add), [.t 177, .t 178], (some (170, false))⟩,
    ⟨(some 180), .mv, [.t 20], (some (170, false))⟩,
    ⟨(some 181), (.len 0), [.t 180], (some (170, false))⟩,
    ⟨(some 182), (.binI .add), [.t 179, .t 181], (some (170, false))⟩,
    ⟨(some 183), .mv, [.t 25], (some (170, false))⟩,
    ⟨(some 184), (.len 0), [.t 183], (some (170, false))⟩,
    ⟨(some 185), (.binI .add), [.t 182, .t 184], (some (170, false))⟩,
    ⟨(some 186), (.binI .neq), [.t 185, .c (.i .i64 0)], (some (170, false))⟩,
    ⟨(some 187), .pick, [.t 170, .c (.b true), .t 186], none⟩] [0, 1, 2, 7, 8, 187])
  (.cond (.t 187)
   (.seq (.reg [⟨(some 6), .mv, [.c (.b false)], none⟩] [6])
   .ret)
   .skip))))))))))
  .skip))
 (.seq (.reg [⟨(some 188), .mv, [.t 7], none⟩,
   ⟨(some 189), .notB, [.t 188], none⟩,
   ⟨(some 190), .mv, [.t 189], none⟩,
   ⟨(some 191), .mv, [.t 2], (some (190, false))⟩,
   ⟨(some 192), (.binI .lss), [.t 191, .c (.i .i64 0)], (some (190, false))⟩,
   ⟨(some 193), .pick, [.t 190, .c (.b true), .t 192], none⟩,
   ⟨(some 194), .mv, [.t 193], none⟩,
   ⟨(some 195), .mv, [.t 0], (some (194, false))⟩,
   ⟨(some 196), .mv, [.t 1], (some (194, false))⟩,
   ⟨(some 197), (.binI .mul), [.t 195, .t 196], (some (194, false))⟩,
   ⟨(some 198), (.binI .lss), [.t 197, .c (.i .i64 62)], (some (194, false))⟩,
   ⟨(some 199), .mv, [.t 198], (some (194, false))⟩,
   ⟨(some 200), .mv, [.t 2], (some (199, true))⟩,
   ⟨(some 201), .mv, [.t 0], (some (199, true))⟩,
   ⟨(some 202), .mv, [.t 1], (some (199, true))⟩,
   ⟨(some 203), (.binI .mul), [.t 201, .t 202], (some (199, true))⟩,
   ⟨(some 204), (.binI .shl), [.c (.i .i64 1), .t 203], (some (199, true))⟩,
   ⟨(some 205), (.binI .geq), [.t 200, .t 204], (some (199, true))⟩,
   ⟨(some 206), .pick, [.t 199, .t 205, .c (.b false)], (some (194, false))⟩,
   ⟨(some 207), .pick, [.t 194, .c (.b true), .t 206], none⟩,
   ⟨(some 30), .mv, [.t 207], none⟩] [0, 1, 2, 7, 8, 30])
 (.seq (.seq (.reg [⟨(some 208), .mv, [.t 30], none⟩] [0, 1, 2, 7, 8, 208])
 (.cond (.t 208)
  (.seq (.reg [⟨(some 210), .mv, [.t 0], none⟩,
    ⟨(some 211), .mv, [.t 1], none⟩,
    ⟨(some 212), .mv, [.t 2], none⟩,
    ⟨(some 213), (.call (.pu [])), [.c (.fn 38 [] []), .t 210, .t 211, .t 212], none⟩,
    ⟨(some 209), .mv, [.t 213], none⟩,
    ⟨(some 214), (.ext 0), [.t 209], none⟩,
    ⟨(some 215), (.ext 1), [.t 209], none⟩,
    ⟨(some 31), .mv, [.t 214], none⟩,
    ⟨(some 32), .mv, [.t 215], none⟩] [0, 1, 2, 7, 8, 31, 32])
  (.seq (.reg [⟨(some 217), .mv, [.t 0], none⟩,
    ⟨(some 218), .mv, [.t 1], none⟩,
    ⟨(some 219), .mv, [.t 2], none⟩,
    ⟨(some 220), (.call (.pu [])), [.c (.fn 39 [] []), .t 217, .t 218, .t 219], none⟩,
    ⟨(some 216), .mv, [.t 220], none⟩,
    ⟨(some 221), (.ext 0), [.t 216], none⟩,
    ⟨(some 222), (.ext 1), [.t 216], none⟩,
    ⟨(some 33), .mv, [.t 221], none⟩,
    ⟨(some 34), .mv, [.t 222], none⟩] [0, 1, 2, 7, 8, 31, 32, 33, 34])
  (.seq (.reg [⟨(some 223), .mv, [.t 32], none⟩,
    ⟨(some 224), .mv, [.t 8], none⟩,
    ⟨(some 225), (.binI .neq), [.t 223, .t 224], none⟩,
    ⟨(some 226), .mv, [.t 225], none⟩,
    ⟨(some 227), .mv, [.t 34], (some (226, false))⟩,
    ⟨(some 228), .mv, [.t 8], (some (226, false))⟩,
    ⟨(some 229), (.binI .neq), [.t 227, .t 228], (some (226, false))⟩,
    ⟨(some 230), .pick, [.t 226, .c (.b true), .t 229], none⟩,
    ⟨(some 231), .mv, [.t 230], none⟩,
    ⟨(some 232), .mv, [.t 31], (some (231, false))⟩,
    ⟨(some 233), .pick, [.t 231, .c (.b true), .t 232], none⟩,
    ⟨(some 234), .mv, [.t 233], none⟩,
    ⟨(some 235), .mv, [.t 33], (some (234, false))⟩,
    ⟨(some 236), .pick, [.t 234, .c (.b true), .t 235], none⟩] [0, 1, 2, 7, 8, 236])
  (.cond (.t 236)
   (.seq (.reg [⟨(some 6), .mv, [.c (.b false)], none⟩] [6])
   .ret)
   .skip))))
  .skip))
 (.seq (.seq (.reg [⟨(some 237), .mv, [.t 7], none⟩,
   ⟨(some 238), .mv, [.t 237], none⟩,
   ⟨(some 239), .mv, [.t 2], (some (238, true))⟩,
   ⟨(some 240), (.binI .geq), [.t 239, .c (.i .i64 0)], (some (238, true))⟩,
   ⟨(some 241), .pick, [.t 238, .t 240, .c (.b false)], none⟩,
   ⟨(some 242), .mv, [.t 241], none⟩,
   ⟨(some 243), .mv, [.t 2], (some (242, true))⟩,
   ⟨(some 244), .mv, [.t 0], (some (242, true))⟩,
   ⟨(some 245), .mv, [.t 1], (some (242, true))⟩,
   ⟨(some 246), (.binI .mul), [.t 244, .t 245], (some (242, true))⟩,
   ⟨(some 247), (.binI .lss), [.t 243, .t 246], (some (242, true))⟩,
   ⟨(some 248), .pick, [.t 242, .t 247, .c (.b false)], none⟩] [0, 1, 2, 8, 248])
 (.cond (.t 248)
  (.seq (.reg [⟨(some 249), (.call (.pu [])), [.c (.fn 25 [] [])], none⟩,
    ⟨(some 6), .mv, [.t 249], none⟩] [6])
  .ret)
  .skip))
 (.seq (.reg [⟨(some 251), .mv, [.t 0], none⟩,
   ⟨(some 252), .mv, [.t 1], none⟩,
   ⟨(some 253), .mv, [.t 2], none⟩,
   ⟨(some 254), (.call (.pu [])), [.c (.fn 28 [] []), .t 251, .t 252, .t 253], none⟩,
   ⟨(some 250), .mv, [.t 254], none⟩,
   ⟨(some 255), (.ext 0), [.t 250], none⟩,
   ⟨(some 256), (.ext 1), [.t 250], none⟩,
   ⟨(some 35), .mv, [.t 255], none⟩,
   ⟨(some 36), .mv, [.t 256], none⟩] [0, 1, 2, 8, 35, 36])
 (.seq (.reg [⟨(some 258), .mv, [.t 0], none⟩,
   ⟨(some 259), .mv, [.t 1], none⟩,
   ⟨(some 260), .mv, [.t 2], none⟩,
   ⟨(some 261), (.call (.pu [])), [.c (.fn 29 [] []), .t 258, .t 259, .t 260, .c (.i .i64 0)], none⟩,
   ⟨(some 257), .mv, [.t 261], none⟩,
   ⟨(some 262), (.ext 0), [.t 257], none⟩,
   ⟨(some 263), (.ext 1), [.t 257], none⟩,
   ⟨(some 264), (.ext 2), [.t 257], none⟩,
   ⟨(some 37), .mv, [.t 262], none⟩,
   ⟨(some 38), .mv, [.t 263], none⟩,
   ⟨(some 39), .mv, [.t 264], none⟩] [0, 1, 2, 8, 35, 36, 37, 38, 39])
 (.seq (.reg [⟨(some 266), .mv, [.t 0], none⟩,
   ⟨(some 267), .mv, [.t 1], none⟩,
   ⟨(some 268), .mv, [.t 2], none⟩,
   ⟨(some 269), (.call (.pu [])), [.c (.fn 30 [] []), .t 266, .t 267, .c (.i .i64 0), .t 268], none⟩,
   ⟨(some 265), .mv, [.t 269], none⟩,
   ⟨(some 270), (.ext 0), [.t 265], none⟩,
   ⟨(some 271), (.ext 1), [.t 265], none⟩,
   ⟨(some 272), (.ext 2), [.t 265], none⟩,
   ⟨(some 40), .mv, [.t 270], none⟩,
   ⟨(some 41), .mv, [.t 271], none⟩,
   ⟨(some 42), .mv, [.t 272], none⟩] [0, 1, 2, 8, 35, 36, 37, 38, 39, 40, 41, 42])
 (.seq (.reg [⟨(some 274), .mv, [.t 0], none⟩,
   ⟨(some 275), .mv, [.t 1], none⟩,
   ⟨(some 276), .mv, [.t 2], none⟩,
   ⟨(some 277), (.call (.pu [])), [.c (.fn 26 [] []), .t 274, .t 275, .t 276, .c (.i .i64 0), .c (.i .i64 1)], none⟩,
   ⟨(some 273), .mv, [.t 277], none⟩,
   ⟨(some 278), (.ext 0), [.t 273], none⟩,
   ⟨(some 279), (.ext 1), [.t 273], none⟩,
   ⟨(some 43), .mv, [.t 278], none⟩,
   ⟨(some 44), .mv, [.t 279], none⟩] [0, 1, 2, 8, 35, 36, 37, 38, 39, 40, 41, 42, 43, 44])
 (.seq (.reg [⟨(some 281), .mv, [.t 0], none⟩,
   ⟨(some 282), .mv, [.t 1], none⟩,
   ⟨(some 283), .mv, [.t 2], none⟩,
   ⟨(some 284), (.call (.pu [])), [.c (.fn 42 [] []), .t 281, .t 282, .t 283, .c (.i .i64 1)], none⟩,
   ⟨(some 280), .mv, [.t 284], none⟩,
   ⟨(some 285), (.ext 0), [.t 280], none⟩,
   ⟨(some 286), (.ext 1), [.t 280], none⟩,
   ⟨(some 45), .mv, [.t 285], none⟩,
   ⟨(some 46), .mv, [.t 286], none⟩] [8, 35, 36, 37, 38, 39, 40, 41, 42, 43, 44, 45, 46])
 (.seq (.reg [⟨(some 287), .mv, [.t 36], none⟩,
   ⟨(some 288), .mv, [.t 8], none⟩,
   ⟨(some 289), (.binI .eql), [.t 287, .t 288], none⟩,
   ⟨(some 290), .mv, [.t 289], none⟩,
   ⟨(some 291), .mv, [.t 39], (some (290, true))⟩,
   ⟨(some 292), .mv, [.t 8], (some (290, true))⟩,
   ⟨(some 293), (.binI .eql), [.t 291, .t 292], (some (290, true))⟩,
   ⟨(some 294), .pick, [.t 290, .t 293, .c (.b false)], none⟩,
   ⟨(some 295), .mv, [.t 294], none⟩,
   ⟨(some 296), .mv, [.t 42], (some (295, true))⟩,
   ⟨(some 297), .mv, [.t 8], (some (295, true))⟩,
   ⟨(some 298), (.binI .eql), [.t 296, .t 297], (some (295, true))⟩,
   ⟨(some 299), .pick, [.t 295, .t 298, .c (.b false)], none⟩,
   ⟨(some 300), .mv, [.t 299], none⟩,
   ⟨(some 301), .mv, [.t 44], (some (300, true))⟩,
   ⟨(some 302), .mv, [.t 8], (some (300, true))⟩,
   ⟨(some 303), (.binI .eql), [.t 301, .t 302], (some (300, true))⟩,
   ⟨(some 304), .pick, [.t 300, .t 303, .c (.b false)], none⟩,
   ⟨(some 305), .mv, [.t 304], none⟩,
   ⟨(some 306), .mv, [.t 46], (some (305, true))⟩,
   ⟨(some 307), .mv, [.t 8], (some (305, true))⟩,
   ⟨(some 308), (.binI .eql), [.t 306, .t 307], (some (305, true))⟩,
   ⟨(some 309), .pick, [.t 305, .t 308, .c (.b false)], none⟩,
   ⟨(some 310), .mv, [.t 309], none⟩,
   ⟨(some 311), .mv, [.t 38], (some (310, true))⟩,
   ⟨(some 312), .notB, [.t 311], (some (310, true))⟩,
   ⟨(some 313), .pick, [.t 310, .t 312, .c (.b false)], none⟩,
   ⟨(some 314), .mv, [.t 313], none⟩,
   ⟨(some 315), .mv, [.t 41], (some (314, true))⟩,
   ⟨(some 316), .notB, [.t 315], (some (314, true))⟩,
   ⟨(some 317), .pick, [.t 314, .t 316, .c (.b false)], none⟩,
   ⟨(some 318), .mv, [.t 317], none⟩,
   ⟨(some 319), .mv, [.t 43], (some (318, true))⟩,
   ⟨(some 320), (.binI .eql), [.t 319, .c (.i .i64 0)], (some (318, true))⟩,
   ⟨(some 321), .pick, [.t 318, .t 320, .c (.b false)], none⟩,
   ⟨(some 322), .mv, [.t 321], none⟩,
   ⟨(some 323), .mv, [.t 35], (some (322, true))⟩,
   ⟨(some 324), (.len 0), [.t 323], (some (322, true))⟩,
   ⟨(some 325), .mv, [.t 37], (some (322, true))⟩,
   ⟨(some 326), (.binI .add), [.t 324, .t 325], (some (322, true))⟩,
   ⟨(some 327), .mv, [.t 40], (some (322, true))⟩,
   ⟨(some 328), (.len 0), [.t 327], (some (322, true))⟩,
   ⟨(some 329), (.binI .add), [.t 326, .t 328], (some (322, true))⟩,
   ⟨(some 330), .mv, [.t 45], (some (322, true))⟩,
   ⟨(some 331), (.len 0), [.t 330], (some (322, true))⟩,
   ⟨(some 332), (.binI .add), [.t 329, .t 331], (some (322, true))⟩,
   ⟨(some 333), (.binI .eql), [.t 332, .c (.i .i64 0)], (some (322, true))⟩,
   ⟨(some 334), .pick, [.t 322, .t 333, .c (.b false)], none⟩,
   ⟨(some 335), .mv, [.t 334], none⟩,
   ⟨(some 336), (.call (.pu [])), [.c (.fn 25 [] [])], (some (335, true))⟩,
   ⟨(some 337), .pick, [.t 335, .t 336, .c (.b false)], none⟩,
   ⟨(some 6), .mv, [.t 337], none⟩] [6])
 .ret))))))))))))))

def c18 : DC :=
 (.seq (.reg [⟨(some 4), .mv, [.c (.i .i64 0)], none⟩,
   ⟨(some 5), .mv, [.c (.i .i64 0)], none⟩] [0, 1])
 (.seq (.reg [⟨(some 6), .mv, [.t 0], none⟩,
   ⟨(some 7), (.conv .u64), [.t 6], none⟩,
   ⟨(some 8), (.binI .rem), [.t 7, .c (.i .u64 8)], none⟩,
   ⟨(some 9), (.conv .i64), [.t 8], none⟩,
   ⟨(some 10), (.binI .add), [.c (.i .i64 1), .t 9], none⟩,
   ⟨(some 0), .mv, [.t 10], none⟩] [0, 1])
 (.seq (.reg [⟨(some 11), .mv, [.t 1], none⟩,
   ⟨(some 12), (.conv .u64), [.t 11], none⟩,
   ⟨(some 13), (.binI .rem), [.t 12, .c (.i .u64 8)], none⟩,
   ⟨(some 14), (.conv .i64), [.t 13], none⟩,
   ⟨(some 15), (.binI .add), [.c (.i .i64 1), .t 14], none⟩,
   ⟨(some 1), .mv, [.t 15], none⟩] [0, 1])
 (.seq (.seq (.reg [⟨(some 16), .mv, [.t 0], none⟩,
   ⟨(some 17), .mv, [.t 1], none⟩,
   ⟨(some 18), (.binI .mul), [.t 16, .t 17], none⟩,
   ⟨(some 19), (.binI .gtr), [.t 18, .c (.i .i64 36)], none⟩] [0, 1, 19])
 (.cond (.t 19)
  (.seq (.reg [⟨(some 20), .mv, [.t 0], none⟩,
    ⟨(some 21), .mv, [.t 1], none⟩,
    ⟨(some 22), (.binI .gtr), [.t 20, .t 21], none⟩] [0, 1, 22])
  (.cond (.t 22)
   (.reg [⟨(some 23), .mv, [.t 1], none⟩,
     ⟨(some 24), (.binI .quo), [.c (.i .i64 36), .t 23], none⟩,
     ⟨(some 0), .mv, [.t 24], none⟩] [0, 1])
   (.reg [⟨(some 25), .mv, [.t 0], none⟩,
     ⟨(some 26), (.binI .quo), [.c (.i .i64 36), .t 25], none⟩,
     ⟨(some 1), .mv, [.t 26], none⟩] [0, 1])))
  .skip))
 (.seq (.reg [⟨(some 27), .mv, [.t 0], none⟩,
   ⟨(some 28), .mv, [.t 1], none⟩,
   ⟨(some 4), .mv, [.t 27], none⟩,
   ⟨(some 5), .mv, [.t 28], none⟩] [4, 5])
 .ret)))))

def d18 : DFun := ⟨2, 29, c18, [.t 4, .t 5]⟩

theorem ok18 : Fok Tryd.prog 18 d18 := ⟨Tryd.f18, Tryd.func18, by kernel_rfl, by kernel_rfl⟩

-- bibelot/knight.Closed
def c19 : DC :=
 (.seq (.reg [⟨(some 4), .mv, [.c .nilsl], none⟩,
   ⟨(some 5), .mv, [.c (.b false)], none⟩,
   ⟨(some 6), .mv, [.c (.i .i64 0)], none⟩] [0, 1])
 (.seq (.reg [⟨(some 13), .mv, [.t 0], none⟩,
   ⟨(some 14), .mv, [.t 1], none⟩,
   ⟨(some 15), (.call .sh), [.c (.fn 59 [] []), .t 13, .t 14, .c .nilsl], none⟩,
   ⟨(some 12), .mv, [.t 15], none⟩,
   ⟨(some 16), (.ext 0), [.t 12], none⟩,
   ⟨(some 17), (.ext 1), [.t 12], none⟩,
   ⟨(some 7), .mv, [.t 16], none⟩,
   ⟨(some 8), .mv, [.t 17], none⟩] [7, 8])
 (.seq (.seq (.reg [⟨(some 18), .mv, [.t 8], none⟩,
   ⟨(some 19), (.binI .neq), [.t 18, .c (.i .i64 0)], none⟩] [7, 8, 19])
 (.cond (.t 19)
  (.seq (.reg [⟨(some 20), .mv, [.t 8], none⟩,
    ⟨(some 4), .mv, [.c .nilsl], none⟩,
    ⟨(some 5), .mv, [.c (.b false)], none⟩,
    ⟨(some 6), .mv, [.t 20], none⟩] [4, 5, 6])
  .ret)
  .skip))
 (.seq (.seq (.reg [⟨(some 22), .mv, [.t 7], none⟩,
   ⟨(some 23), (.call (.pu [])), [.c (.fn 60 [] []), .t 22], none⟩,
   ⟨(some 21), .mv, [.t 23], none⟩,
   ⟨(some 24), (.ext 0), [.t 21], none⟩,
   ⟨(some 25), (.ext 1), [.t 21], none⟩,
   ⟨(some 9), .mv, [.t 24], none⟩,
   ⟨(some 10), .mv, [.t 25], none⟩] [7, 10])
 (.seq (.reg [⟨(some 26), .mv, [.t 10], none⟩,
   ⟨(some 27), .mv, [.t 26], none⟩,
   ⟨(some 28), .mv, [.t 7], (some (27, false))⟩,
   ⟨(some 29), .nilck, [.t 28], (some (27, false))⟩,
   ⟨(some 30), (.fadr 2 1 false), [.t 29], (some (27, false))⟩,
   ⟨(some 31), (.ld 1 false), [.t 30], (some (27, false))⟩,
   ⟨(some 32), (.binI .eql), [.t 31, .c (.i .i64 1)], (some (27, false))⟩,
   ⟨(some 33), .pick, [.t 27, .c (.b true), .t 32], none⟩] [7, 33])
 (.cond (.t 33)
  (.seq (.reg [⟨(some 4), .mv, [.c .nilsl], none⟩,
    ⟨(some 5), .mv, [.c (.b false)], none⟩,
    ⟨(some 6), .mv, [.c (.i .i64 0)], none⟩] [4, 5, 6])
  .ret)
  .skip)))
 (.seq (.reg [⟨(some 34), .mv, [.t 7], none⟩,
   ⟨(some 35), (.call (.pu [])), [.c (.fn 61 [] []), .t 34, .c (.i .i64 0), .c (.b true)], none⟩,
   ⟨(some 11), .mv, [.t 35], none⟩] [11])
 (.seq (.reg [⟨(some 36), .mv, [.t 11], none⟩,
   ⟨(some 37), .mv, [.t 11], none⟩,
   ⟨(some 38), (.eqN 0 true), [.t 37, .c .nilsl], none⟩,
   ⟨(some 4), .mv, [.t 36], none⟩,
   ⟨(some 5), .mv, [.t 38], none⟩,
   ⟨(some 6), .mv, [.c (.i .i64 0)], none⟩] [4, 5, 6])
 .ret))))))

def d19 : DFun := ⟨2, 39, c19, [.t 4, .t 5, .t 6]⟩

theorem ok19 : Fok Tryd.prog 19 d19 := ⟨Tryd.f19, Tryd.func19, by kernel_rfl, by kernel_rfl⟩

-- bibelot/knight.Open
def b20_0 : DC :=
 (.seq (.reg [⟨(some 25), (.binI .lss), [.t 24, .t 23], none⟩] [7, 23, 24, 25])
 (.seq (.cond (.t 25)
  .skip
  (.exit 0))
 (.seq (.block 1
  (.seq (.reg [⟨(some 26), .mv, [.t 24], none⟩,
    ⟨(some 9), .mv, [.t 26], none⟩] [7, 9, 23, 24])
  (.seq (.reg [⟨(some 27), .mv, [.t 7], none⟩,
    ⟨(some 28), .mv, [.t 9], none⟩,
    ⟨(some 29), (.call (.pu [])), [.c (.fn 61 [] []), .t 27, .t 28, .c (.b false)], none⟩,
    ⟨(some 10), .mv, [.t 29], none⟩] [7, 10, 23, 24])
  (.seq (.reg [⟨(some 30), .mv, [.t 10], none⟩,
    ⟨(some 31), (.eqN 0 true), [.t 30, .c .nilsl], none⟩] [7, 10, 23, 24, 31])
  (.cond (.t 31)
   (.seq (.reg [⟨(some 32), .mv, [.t 10], none⟩,
     ⟨(some 4), .mv, [.t 32], none⟩,
     ⟨(some 5), .mv, [.c (.b true)], none⟩,
     ⟨(some 6), .mv, [.c (.i .i64 0)], none⟩] [4, 5, 6])
   .ret)
   .skip)))))
 (.reg [⟨(some 33), (.binI .add), [.t 24, .c (.i .i64 1)], none⟩,
   ⟨(some 24), .mv, [.t 33], none⟩] [7, 23, 24]))))

def l20_1 : DC :=
 (.loop [7, 23, 24] b20_0)

def c20 : DC :=
 (.seq (.reg [⟨(some 4), .mv, [.c .nilsl], none⟩,
   ⟨(some 5), .mv, [.c (.b false)], none⟩,
   ⟨(some 6), .mv, [.c (.i .i64 0)], none⟩] [0, 1])
 (.seq (.reg [⟨(some 12), .mv, [.t 0], none⟩,
   ⟨(some 13), .mv, [.t 1], none⟩,
   ⟨(some 14), (.call .sh), [.c (.fn 59 [] []), .t 12, .t 13, .c .nilsl], none⟩,
   ⟨(some 11), .mv, [.t 14], none⟩,
   ⟨(some 15), (.ext 0), [.t 11], none⟩,
   ⟨(some 16), (.ext 1), [.t 11], none⟩,
   ⟨(some 7), .mv, [.t 15], none⟩,
   ⟨(some 8), .mv, [.t 16], none⟩] [7, 8])
 (.seq (.seq (.reg [⟨(some 17), .mv, [.t 8], none⟩,
   ⟨(some 18), (.binI .neq), [.t 17, .c (.i .i64 0)], none⟩] [7, 8, 18])
 (.cond (.t 18)
  (.seq (.reg [⟨(some 19), .mv, [.t 8], none⟩,
    ⟨(some 4), .mv, [.c .nilsl], none⟩,
    ⟨(some 5), .mv, [.c (.b false)], none⟩,
    ⟨(some 6), .mv, [.t 19], none⟩] [4, 5, 6])
  .ret)
  .skip))
 (.seq (.seq (.reg [⟨(some 20), .mv, [.t 7], none⟩,
   ⟨(some 21), .nilck, [.t 20], none⟩,
   ⟨(some 22), (.fadr 2 1 false), [.t 21], none⟩,
   ⟨(some 23), (.ld 1 false), [.t 22], none⟩,
   ⟨(some 24), .mv, [.c (.i .i64 0)], none⟩] [7, 23, 24])
 (.block 0
  l20_1))
 (.seq (.reg [⟨(some 4), .mv, [.c .nilsl], none⟩,
   ⟨(some 5), .mv, [.c (.b false)], none⟩,
   ⟨(some 6), .mv, [.c (.i .i64 0)], none⟩] [4, 5, 6])
 .ret)))))

def d20 : DFun := ⟨2, 34, c20, [.t 4, .t 5, .t 6]⟩

theorem ok20 : Fok Tryd.prog 20 d20 := ⟨Tryd.f20, Tryd.func20, by kernel_rfl, by kernel_rfl⟩

-- bibelot/bibelotref06.HasClosed
def c25 : DC :=
 (.seq (.reg [⟨(some 0), .mv, [.c (.b false)], none⟩] [])
 (.seq (.reg [⟨(some 23), (.call (.pu [])), [.c (.fn 28 [] []), .c (.i .i64 3), .c (.i .i64 3), .c (.i .i64 4)], none⟩,
   ⟨(some 22), .mv, [.t 23], none⟩,
   ⟨(some 24), (.ext 0), [.t 22], none⟩,
   ⟨(some 25), (.ext 1), [.t 22], none⟩,
   ⟨(some 1), .mv, [.t 24], none⟩,
   ⟨(some 2), .mv, [.t 25], none⟩] [1, 2])
 (.seq (.reg [⟨(some 27), (.call (.pu [])), [.c (.fn 20 [] []), .c (.i .i64 3), .c (.i .i64 3)], none⟩,
   ⟨(some 26), .mv, [.t 27], none⟩,
   ⟨(some 28), (.ext 0), [.t 26], none⟩,
   ⟨(some 29), (.ext 1), [.t 26], none⟩,
   ⟨(some 30), (.ext 2), [.t 26], none⟩,
   ⟨(some 3), .mv, [.t 28], none⟩,
   ⟨(some 4), .mv, [.t 29], none⟩,
   ⟨(some 5), .mv, [.t 30], none⟩] [1, 2, 4, 5])
 (.seq (.reg [⟨(some 32), (.call (.pu [])), [.c (.fn 20 [] []), .c (.i .i64 3), .c (.i .i64 4)], none⟩,
   ⟨(some 31), .mv, [.t 32], none⟩,
   ⟨(some 33), (.ext 0), [.t 31], none⟩,
   ⟨(some 34), (.ext 1), [.t 31], none⟩,
   ⟨(some 35), (.ext 2), [.t 31], none⟩,
   ⟨(some 6), .mv, [.t 33], none⟩,
   ⟨(some 7), .mv, [.t 34], none⟩,
   ⟨(some 8), .mv, [.t 35], none⟩] [1, 2, 4, 5, 7, 8])
 (.seq (.reg [⟨(some 37), (.call (.pu [])), [.c (.fn 19 [] []), .c (.i .i64 3), .c (.i .i64 4)], none⟩,
   ⟨(some 36), .mv, [.t 37], none⟩,
   ⟨(some 38), (.ext 0), [.t 36], none⟩,
   ⟨(some 39), (.ext 1), [.t 36], none⟩,
   ⟨(some 40), (.ext 2), [.t 36], none⟩,
   ⟨(some 9), .mv, [.t 38], none⟩,
   ⟨(some 10), .mv, [.t 39], none⟩,
   ⟨(some 11), .mv, [.t 40], none⟩] [1, 2, 4, 5, 7, 8, 10, 11])
 (.seq (.reg [⟨(some 42), (.call (.pu [])), [.c (.fn 38 [] []), .c (.i .i64 3), .c (.i .i64 3), .c (.i .i64 16)], none⟩,
   ⟨(some 41), .mv, [.t 42], none⟩,
   ⟨(some 43), (.ext 0), [.t 41], none⟩,
   ⟨(some 44), (.ext 1), [.t 41], none⟩,
   ⟨(some 12), .mv, [.t 43], none⟩,
   ⟨(some 13), .mv, [.t 44], none⟩] [1, 2, 4, 5, 7, 8, 10, 11, 12, 13])
 (.seq (.reg [⟨(some 46), (.call (.pu [])), [.c (.fn 29 [] []), .c (.i .i64 3), .c (.i .i64 3), .c (.i .i64 0), .c (.i .i64 2)], none⟩,
   ⟨(some 45), .mv, [.t 46], none⟩,
   ⟨(some 47), (.ext 0), [.t 45], none⟩,
   ⟨(some 48), (.ext 1), [.t 45], none⟩,
   ⟨(some 49), (.ext 2), [.t 45], none⟩,
   ⟨(some 14), .mv, [.t 47], none⟩,
   ⟨(some 15), .mv, [.t 48], none⟩,
   ⟨(some 16), .mv, [.t 49], none⟩] [1, 2, 4, 5, 7, 8, 10, 11, 12, 13, 14, 15, 16])
 (.seq (.reg [⟨(some 51), (.call (.pu [])), [.c (.fn 45 [] []), .c (.i .i64 3), .c (.i .i64 4)], none⟩,
   ⟨(some 50), .mv, [.t 51], none⟩,
   ⟨(some 52), (.ext 0), [.t 50], none⟩,
   ⟨(some 53), (.ext 1), [.t 50], none⟩,
   ⟨(some 54), (.ext 2), [.t 50], none⟩,
   ⟨(some 17), .mv, [.t 52], none⟩,
   ⟨(some 18), .mv, [.t 53], none⟩,
   ⟨(some 19), .mv, [.t 54], none⟩] [1, 2, 4, 5, 7, 8, 10, 11, 12, 13, 14, 15, 16, 18, 19])
 (.seq (.reg [⟨(some 56), (.call (.pu [])), [.c (.fn 26 [] []), .c (.i .i64 3), .c (.i .i64 3), .c (.i .i64 0), .c (.i .i64 0), .c (.i .i64 2)], none⟩,
   ⟨(some 55), .mv, [.t 56], none⟩,
   ⟨(some 57), (.ext 0), [.t 55], none⟩,
   ⟨(some 58), (.ext 1), [.t 55], none⟩,
   ⟨(some 20), .mv, [.t 57], none⟩,
   ⟨(some 21), .mv, [.t 58], none⟩] [1, 2, 4, 5, 7, 8, 10, 11, 12, 13, 14, 15, 16, 18, 19, 20, 21])
 (.seq (.reg [⟨(some 59), .mv, [.t 2], none⟩,
   ⟨(some 60), (.binI .eql), [.t 59, .c (.i .i64 0)], none⟩,
   ⟨(some 61), .mv, [.t 60], none⟩,
   ⟨(some 62), .mv, [.t 1], (some (61, true))⟩,
   ⟨(some 63), (.len 0), [.t 62], (some (61, true))⟩,
   ⟨(some 64), (.binI .eql), [.t 63, .c (.i .i64 0)], (some (61, true))⟩,
   ⟨(some 65), .pick, [.t 61, .t 64, .c (.b false)], none⟩,
   ⟨(some 66), .mv, [.t 65], none⟩,
   ⟨(some 67), .mv, [.t 5], (some (66, true))⟩,
   ⟨(some 68), (.binI .eql), [.t 67, .c (.i .i64 0)], (some (66, true))⟩,
   ⟨(some 69), .pick, [.t 66, .t 68, .c (.b false)], none⟩,
   ⟨(some 70), .mv, [.t 69], none⟩,
   ⟨(some 71), .mv, [.t 4], (some (70, true))⟩,
   ⟨(some 72), .notB, [.t 71], (some (70, true))⟩,
   ⟨(some 73), .pick, [.t 70, .t 72, .c (.b false)], none⟩,
   ⟨(some 74), .mv, [.t 73], none⟩,
   ⟨(some 75), .mv, [.t 8], (some (74, true))⟩,
   ⟨(some 76), (.binI .eql), [.t 75, .c (.i .i64 0)], (some (74, true))⟩,
   ⟨(some 77), .pick, [.t 74, .t 76, .c (.b false)], none⟩,
   ⟨(some 78), .mv, [.t 77], none⟩,
   ⟨(some 79), .mv, [.t 7], (some (78, true))⟩,
   ⟨(some 80), .pick, [.t 78, .t 79, .c (.b false)], none⟩,
   ⟨(some 81), .mv, [.t 80], none⟩,
   ⟨(some 82), .mv, [.t 11], (some (81, true))⟩,
   ⟨(some 83), (.binI .eql), [.t 82, .c (.i .i64 0)], (some (81, true))⟩,
   ⟨(some 84), .pick, [.t 81, .t 83, .c (.b false)], none⟩,
   ⟨(some 85), .mv, [.t 84], none⟩,
   ⟨(some 86), .mv, [.t 10], (some (85, true))⟩,
   ⟨(some 87), .notB, [.t 86], (some (85, true))⟩,
   ⟨(some 88), .pick, [.t 85, .t 87, .c (.b false)], none⟩,
   ⟨(some 89), .mv, [.t 88], none⟩,
   ⟨(some 90), .mv, [.t 13], (some (89, true))⟩,
   ⟨(some 91), (.binI .eql), [.t 90, .c (.i .i64 0)], (some (89, true))⟩,
   ⟨(some 92), .pick, [.t 89, .t 91, .c (.b false)], none⟩,
   ⟨(some 93), .mv, [.t 92], none⟩,
   ⟨(some 94), .mv, [.t 12], (some (93, true))⟩,
   ⟨(some 95), .pick, [.t 93, .t 94, .c (.b false)], none⟩,
   ⟨(some 96), .mv, [.t 95], none⟩,
   ⟨(some 97), .mv, [.t 16], (some (96, true))⟩,
   ⟨(some 98), (.binI .eql), [.t 97, .c (.i .i64 0)], (some (96, true))⟩,
   ⟨(some 99), .pick, [.t 96, .t 98, .c (.b false)], none⟩,
   ⟨(some 100), .mv, [.t 99], none⟩,
   ⟨(some 101), .mv, [.t 15], (some (100, true))⟩,
   ⟨(some 102), .pick, [.t 100, .t 101, .c (.b false)], none⟩,
   ⟨(some 103), .mv, [.t 102], none⟩,
   ⟨(some 104), .mv, [.t 14], (some (103, true))⟩,
   ⟨(some 105), (.binI .eql), [.t 104, .c (.i .i64 2)], (some (103, true))⟩,
   ⟨(some 106), .pick, [.t 103, .t 105, .c (.b false)], none⟩,
   ⟨(some 107), .mv, [.t 106], none⟩,
   ⟨(some 108), .mv, [.t 19], (some (107, true))⟩,
   ⟨(some 109), (.binI .eql), [.t 108, .c (.i .i64 0)], (some (107, true))⟩,
   ⟨(some 110), .pick, [.t 107, .t 109, .c (.b false)], none⟩,
   ⟨(some 111), .mv, [.t 110], none⟩,
   ⟨(some 112), .mv, [.t 18], (some (111, true))⟩,
   ⟨(some 113), (.binI .eql), [.t 112, .c (.i .i64 6)], (some (111, true))⟩,
   ⟨(some 114), .pick, [.t 111, .t 113, .c (.b false)], none⟩,
   ⟨(some 115), .mv, [.t 114], none⟩,
   ⟨(some 116), .mv, [.t 21], (some (115, true))⟩,
   ⟨(some 117), (.binI .eql), [.t 116, .c (.i .i64 0)], (some (115, true))⟩,
   ⟨(some 118), .pick, [.t 115, .t 117, .c (.b false)], none⟩,
   ⟨(some 119), .mv, [.t 118], none⟩,
   ⟨(some 120), .mv, [.t 20], (some (119, true))⟩,
   ⟨(some 121), (.binI .eql), [.t 120, .c (.i .i64 2)], (some (119, true))⟩,
   ⟨(some 122), .pick, [.t 119, .t 121, .c (.b false)], none⟩,
   ⟨(some 123), .mv, [.t 122], none⟩,
   ⟨(some 124), (.call (.pu [])), [.c (.fn 58 [] []), .c (.i .i64 0), .c (.i .i64 1)], (some (123, true))⟩,
   ⟨(some 125), (.binI .eql), [.t 124, .c (.i .i64 1)], (some (123, true))⟩,
   ⟨(some 126), .pick, [.t 123, .t 125, .c (.b false)], none⟩,
   ⟨(some 0), .mv, [.t 126], none⟩] [0])
 .ret))))))))))

def d25 : DFun := ⟨0, 127, c25, [.t 0]⟩

theorem ok25 : Fok Tryd.prog 25 d25 := ⟨Tryd.f25, Tryd.func25, by kernel_rfl, by kernel_rfl⟩

-- bibelot/knight.Walks
def a26_0 : DC :=
 (.reg [⟨(some 18), .mv, [.t 60], none⟩] [15, 17, 18])

def b26_1 : DC :=
 (.block 5
  (.reg [⟨(some 61), .mv, [.t 18], none⟩,
    ⟨(some 62), (.ixA 36 1 false), [.t 15, .t 61], none⟩,
    ⟨(some 63), (.ld 1 false), [.t 62], none⟩,
    ⟨(some 64), (.ld 1 false), [.t 17], none⟩,
    ⟨(some 65), (.binI .add), [.t 63, .t 64], none⟩,
    ⟨(some 66), (.ixA 36 1 false), [.t 15, .t 61], none⟩,
    ⟨none, (.st 1), [.t 66, .t 65], none⟩] []))

def b26_2 : DC :=
 (.seq (.reg [⟨(some 49), (.binI .lss), [.t 48, .t 47], none⟩] [3, 12, 14, 15, 39, 40, 46, 47, 48, 49])
 (.seq (.cond (.t 49)
  .skip
  (.exit 2))
 (.seq (.block 3
  (.seq (.reg [⟨(some 50), .mv, [.t 48], none⟩,
    ⟨(some 51), (.ixS 1 false), [.t 46, .t 48], none⟩,
    ⟨(some 52), (.ld 1 false), [.t 51], none⟩,
    ⟨(some 17), (.alloc [(.i .i64 0)] false), [], none⟩,
    ⟨(some 16), .mv, [.t 50], none⟩,
    ⟨none, (.st 1), [.t 17, .t 52], none⟩] [3, 12, 14, 15, 16, 17, 39, 40, 46, 47, 48])
  (.seq (.reg [⟨(some 53), .mv, [.t 12], none⟩,
    ⟨(some 54), .mv, [.t 16], none⟩,
    ⟨(some 55), .nilck, [.t 53], none⟩,
    ⟨(some 56), (.fadr 3 36 true), [.t 55], none⟩,
    ⟨(some 57), (.ixA 36 1 false), [.t 56, .t 54], none⟩,
    ⟨(some 58), (.ld 1 false), [.t 57], none⟩,
    ⟨(some 59), (.call .sh), [.c (.fn 63 [] []), .t 58], none⟩] [3, 12, 14, 15, 17, 39, 40, 46, 47, 48, 59])
  (.block 4
   (.rfunc (.t 59) [60] a26_0
    b26_1 [3, 12, 14, 15, 17, 39, 40, 46, 47, 48])))))
 (.reg [⟨(some 67), (.binI .add), [.t 48, .c (.i .i64 1)], none⟩,
   ⟨(some 48), .mv, [.t 67], none⟩] [3, 12, 14, 15, 39, 40, 46, 47, 48]))))

def l26_3 : DC :=
 (.loop [3, 12, 14, 15, 39, 40, 46, 47, 48] b26_2)

def b26_4 : DC :=
 (.seq (.reg [⟨(some 41), (.binI .lss), [.t 40, .t 39], none⟩] [3, 12, 14, 39, 40, 41])
 (.seq (.cond (.t 41)
  .skip
  (.exit 0))
 (.seq (.block 1
  (.seq (.reg [⟨(some 15), (.alloc (List.replicate 36 (.i .i64 0)) true), [], none⟩] [3, 12, 14, 15, 39, 40])
  (.seq (.seq (.reg [⟨(some 42), .mv, [.t 12], none⟩,
    ⟨(some 43), .nilck, [.t 42], none⟩,
    ⟨(some 44), (.fadr 2 1 false), [.t 43], none⟩,
    ⟨(some 45), (.ld 1 false), [.t 44], none⟩,
    ⟨(some 46), (.slcA false true false 36 1 false), [.t 14, .t 45], none⟩,
    ⟨(some 47), (.len 0), [.t 46], none⟩,
    ⟨(some 48), .mv, [.c (.i .i64 0)], none⟩] [3, 12, 14, 15, 39, 40, 46, 47, 48])
  (.block 2
   l26_3))
  (.reg [⟨(some 68), (.ld 36 true), [.t 15], none⟩,
    ⟨none, (.st 36), [.t 14, .t 68], none⟩] [3, 12, 14, 39, 40]))))
 (.reg [⟨(some 69), (.binI .add), [.t 40, .c (.i .i64 1)], none⟩,
   ⟨(some 40), .mv, [.t 69], none⟩] [3, 12, 14, 39, 40]))))

def l26_5 : DC :=
 (.loop [3, 12, 14, 39, 40] b26_4)

def c26 : DC :=
 (.seq (.reg [⟨(some 10), .mv, [.c (.i .i64 0)], none⟩,
   ⟨(some 11), .mv, [.c (.i .i64 0)], none⟩] [0, 1, 2, 3, 4])
 (.seq (.reg [⟨(some 20), .mv, [.t 0], none⟩,
   ⟨(some 21), .mv, [.t 1], none⟩,
   ⟨(some 22), .mv, [.t 2], none⟩,
   ⟨(some 23), .mv, [.t 3], none⟩,
   ⟨(some 24), (.bsl false [(.i .i64 0)] false 2 [0, 1]), [.t 22, .t 23], none⟩,
   ⟨(some 25), (.call .sh), [.c (.fn 59 [] []), .t 20, .t 21, .t 24], none⟩,
   ⟨(some 19), .mv, [.t 25], none⟩,
   ⟨(some 26), (.ext 0), [.t 19], none⟩,
   ⟨(some 27), (.ext 1), [.t 19], none⟩,
   ⟨(some 12), .mv, [.t 26], none⟩,
   ⟨(some 13), .mv, [.t 27], none⟩] [2, 3, 4, 12, 13])
 (.seq (.seq (.reg [⟨(some 28), .mv, [.t 13], none⟩,
   ⟨(some 29), (.binI .neq), [.t 28, .c (.i .i64 0)], none⟩] [2, 3, 4, 12, 13, 29])
 (.cond (.t 29)
  (.seq (.reg [⟨(some 30), .mv, [.t 13], none⟩,
    ⟨(some 10), .mv, [.c (.i .i64 0)], none⟩,
    ⟨(some 11), .mv, [.t 30], none⟩] [10, 11])
  .ret)
  .skip))
 (.seq (.seq (.reg [⟨(some 31), .mv, [.t 4], none⟩,
   ⟨(some 32), (.binI .lss), [.t 31, .c (.i .i64 0)], none⟩,
   ⟨(some 33), .mv, [.t 32], none⟩,
   ⟨(some 34), .mv, [.t 4], (some (33, false))⟩,
   ⟨(some 35), (.binI .gtr), [.t 34, .c (.i .i64 15)], (some (33, false))⟩,
   ⟨(some 36), .pick, [.t 33, .c (.b true), .t 35], none⟩] [2, 3, 4, 12, 36])
 (.cond (.t 36)
  (.seq (.reg [⟨(some 10), .mv, [.c (.i .i64 0)], none⟩,
    ⟨(some 11), .mv, [.c (.i .i64 1)], none⟩] [10, 11])
  .ret)
  .skip))
 (.seq (.reg [⟨(some 14), (.alloc (List.replicate 36 (.i .i64 0)) true), [], none⟩] [2, 3, 4, 12, 14])
 (.seq (.reg [⟨(some 37), .mv, [.t 2], none⟩,
   ⟨(some 38), (.ixA 36 1 false), [.t 14, .t 37], none⟩,
   ⟨none, (.st 1), [.t 38, .c (.i .i64 1)], none⟩] [3, 4, 12, 14])
 (.seq (.seq (.reg [⟨(some 39), .mv, [.t 4], none⟩,
   ⟨(some 40), .mv, [.c (.i .i64 0)], none⟩] [3, 12, 14, 39, 40])
 (.block 0
  l26_5))
 (.seq (.reg [⟨(some 70), .mv, [.t 3], none⟩,
   ⟨(some 71), (.ixA 36 1 false), [.t 14, .t 70], none⟩,
   ⟨(some 72), (.ld 1 false), [.t 71], none⟩,
   ⟨(some 10), .mv, [.t 72], none⟩,
   ⟨(some 11), .mv, [.c (.i .i64 0)], none⟩] [10, 11])
 .ret))))))))

def d26 : DFun := ⟨5, 73, c26, [.t 10, .t 11]⟩

theorem ok26 : Fok Tryd.prog 26 d26 := ⟨Tryd.f26, Tryd.func26, by kernel_rfl, by kernel_rfl⟩

-- bibelot/bibelotref06.Walks
def c28 : DC :=
 (.seq (.reg [⟨(some 6), .mv, [.c .nilsl], none⟩,
   ⟨(some 7), .mv, [.c (.i .i64 0)], none⟩] [0, 1, 2])
 (.seq (.reg [⟨(some 11), .mv, [.t 0], none⟩,
   ⟨(some 12), .mv, [.t 1], none⟩,
   ⟨(some 13), .mv, [.t 2], none⟩,
   ⟨(some 14), (.bsl false [(.i .i64 0)] false 1 [0]), [.t 13], none⟩,
   ⟨(some 15), (.call .sh), [.c (.fn 59 [] []), .t 11, .t 12, .t 14], none⟩,
   ⟨(some 10), .mv, [.t 15], none⟩,
   ⟨(some 16), (.ext 0), [.t 10], none⟩,
   ⟨(some 17), (.ext 1), [.t 10], none⟩,
   ⟨(some 8), .mv, [.t 16], none⟩,
   ⟨(some 9), .mv, [.t 17], none⟩] [2, 8, 9])
 (.seq (.seq (.reg [⟨(some 18), .mv, [.t 9], none⟩,
   ⟨(some 19), (.binI .neq), [.t 18, .c (.i .i64 0)], none⟩] [2, 8, 9, 19])
 (.cond (.t 19)
  (.seq (.reg [⟨(some 20), .mv, [.t 9], none⟩,
    ⟨(some 6), .mv, [.c .nilsl], none⟩,
    ⟨(some 7), .mv, [.t 20], none⟩] [6, 7])
  .ret)
  .skip))
 (.seq (.reg [⟨(some 21), .mv, [.t 8], none⟩,
   ⟨(some 22), .mv, [.t 2], none⟩,
   ⟨(some 23), .nilck, [.t 21], none⟩,
   ⟨(some 24), (.fadr 3 36 true), [.t 23], none⟩,
   ⟨(some 25), (.ixA 36 1 false), [.t 24, .t 22], none⟩,
   ⟨(some 26), (.ld 1 false), [.t 25], none⟩,
   ⟨(some 27), (.call (.pu [])), [.c (.fn 64 [] []), .t 26], none⟩,
   ⟨(some 6), .mv, [.t 27], none⟩,
   ⟨(some 7), .mv, [.c (.i .i64 0)], none⟩] [6, 7])
 .ret))))

def d28 : DFun := ⟨3, 28, c28, [.t 6, .t 7]⟩

theorem ok28 : Fok Tryd.prog 28 d28 := ⟨Tryd.f28, Tryd.func28, by kernel_rfl, by kernel_rfl⟩

end Go.Proofs.Tryd.Dn

