import Derived.Test.YtgmlmmgpcbollaaDoorProg
import Derived.Test.YtgmlmmgpcbollaaDoorDc
set_option linter.unusedVariables false
set_option maxRecDepth 100000
namespace Go.Proofs.Tryd.Dn
open Go.Dn

-- bibelot/bibelotlaw09.PriceShares
def c3 : DC :=
 (.seq (.reg [⟨(some 4), .mv, [.c (.b false)], none⟩] [0, 1])
 (.seq (.reg [⟨(some 13), .mv, [.t 0], none⟩,
   ⟨(some 14), .mv, [.t 1], none⟩,
   ⟨(some 15), (.call (.pu [])), [.c (.fn 17 [] []), .t 13, .t 14, .c (.i .i64 5)], none⟩,
   ⟨(some 5), .mv, [.t 15], none⟩] [5])
 (.seq (.reg [⟨(some 16), .mv, [.t 5], none⟩,
   ⟨(some 17), (.call (.pu [])), [.c (.fn 18 [] []), .t 16], none⟩,
   ⟨(some 6), .mv, [.t 17], none⟩] [5, 6])
 (.seq (.reg [⟨(some 19), .mv, [.t 6], none⟩,
   ⟨(some 20), (.call (.pu [])), [.c (.fn 19 [] []), .t 19], none⟩,
   ⟨(some 18), .mv, [.t 20], none⟩,
   ⟨(some 21), (.ext 0), [.t 18], none⟩,
   ⟨(some 22), (.ext 1), [.t 18], none⟩,
   ⟨(some 23), (.ext 2), [.t 18], none⟩,
   ⟨(some 7), .mv, [.t 21], none⟩,
   ⟨(some 8), .mv, [.t 22], none⟩,
   ⟨(some 9), .mv, [.t 23], none⟩] [5, 6, 7, 8, 9])
 (.seq (.reg [⟨(some 25), .mv, [.t 6], none⟩,
   ⟨(some 26), (.call (.pu [])), [.c (.fn 20 [] []), .t 25], none⟩,
   ⟨(some 24), .mv, [.t 26], none⟩,
   ⟨(some 27), (.ext 0), [.t 24], none⟩,
   ⟨(some 28), (.ext 1), [.t 24], none⟩,
   ⟨(some 10), .mv, [.t 27], none⟩,
   ⟨(some 11), .mv, [.t 28], none⟩] [5, 7, 8, 9, 10, 11])
 (.seq (.reg [⟨(some 29), .mv, [.t 5], none⟩,
   ⟨(some 30), (.call (.pu [])), [.c (.fn 21 [] []), .t 29], none⟩,
   ⟨(some 12), (.alloc [(.i .i64 0), (.i .i64 0)] true), [], none⟩,
   ⟨none, (.st 2), [.t 12, .t 30], none⟩] [5, 7, 8, 9, 10, 11, 12])
 (.seq (.reg [⟨(some 31), .mv, [.t 9], none⟩,
   ⟨(some 32), (.binI .eql), [.t 31, .c (.i .i64 0)], none⟩,
   ⟨(some 33), .mv, [.t 32], none⟩,
   ⟨(some 34), .mv, [.t 7], (some (33, true))⟩,
   ⟨(some 35), (.fadr 0 1 false), [.t 12], (some (33, true))⟩,
   ⟨(some 36), (.ld 1 false), [.t 35], (some (33, true))⟩,
   ⟨(some 37), (.binI .eql), [.t 34, .t 36], (some (33, true))⟩,
   ⟨(some 38), .pick, [.t 33, .t 37, .c (.b false)], none⟩,
   ⟨(some 39), .mv, [.t 38], none⟩,
   ⟨(some 40), .mv, [.t 8], (some (39, true))⟩,
   ⟨(some 41), (.fadr 1 1 false), [.t 12], (some (39, true))⟩,
   ⟨(some 42), (.ld 1 false), [.t 41], (some (39, true))⟩,
   ⟨(some 43), (.binI .eql), [.t 40, .t 42], (some (39, true))⟩,
   ⟨(some 44), .pick, [.t 39, .t 43, .c (.b false)], none⟩,
   ⟨(some 45), .mv, [.t 44], none⟩,
   ⟨(some 46), .mv, [.t 11], (some (45, true))⟩,
   ⟨(some 47), (.binI .eql), [.t 46, .c (.i .i64 0)], (some (45, true))⟩,
   ⟨(some 48), .pick, [.t 45, .t 47, .c (.b false)], none⟩,
   ⟨(some 49), .mv, [.t 48], none⟩,
   ⟨(some 50), .mv, [.t 10], (some (49, true))⟩,
   ⟨(some 51), .mv, [.t 5], (some (49, true))⟩,
   ⟨(some 52), (.call (.pu [])), [.c (.fn 23 [] []), .t 51], (some (49, true))⟩,
   ⟨(some 53), (.call (.pu [])), [.c (.fn 22 [] []), .t 50, .t 52], (some (49, true))⟩,
   ⟨(some 54), .pick, [.t 49, .t 53, .c (.b false)], none⟩,
   ⟨(some 55), .mv, [.t 54], none⟩,
   ⟨(some 56), (.call (.pu [])), [.c (.fn 24 [] [])], (some (55, true))⟩,
   ⟨(some 57), .pick, [.t 55, .t 56, .c (.b false)], none⟩,
   ⟨(some 4), .mv, [.t 57], none⟩] [4])
 .ret)))))))

def b4_0 : DC :=
 (.seq (.seq (.reg [⟨(some 61), .mv, [.t 14], none⟩,
   ⟨(some 62), (.binI .lss), [.t 61, .c (.i .i64 2)], none⟩] [7, 8, 9, 12, 13, 14, 62])
 (.cond (.t 62)
  .skip
  (.exit 0)))
 (.seq (.block 1
  (.seq (.reg [⟨(some 66), .mv, [.t 8], none⟩,
    ⟨(some 67), .mv, [.t 13], none⟩,
    ⟨(some 68), (.call (.pu [])), [.c (.fn 30 [] []), .t 66, .t 67], none⟩,
    ⟨(some 65), .mv, [.t 68], none⟩,
    ⟨(some 69), (.ext 0), [.t 65], none⟩,
    ⟨(some 70), (.ext 1), [.t 65], none⟩,
    ⟨(some 15), .mv, [.t 69], none⟩,
    ⟨(some 16), .mv, [.t 70], none⟩] [7, 8, 9, 12, 13, 14, 15, 16])
  (.seq (.reg [⟨(some 72), .mv, [.t 8], none⟩,
    ⟨(some 73), .mv, [.t 13], none⟩,
    ⟨(some 74), (.call (.pu [])), [.c (.fn 31 [] []), .t 72, .t 73], none⟩,
    ⟨(some 71), .mv, [.t 74], none⟩,
    ⟨(some 75), (.ext 0), [.t 71], none⟩,
    ⟨(some 76), (.ext 1), [.t 71], none⟩,
    ⟨(some 17), .mv, [.t 75], none⟩,
    ⟨(some 18), .mv, [.t 76], none⟩] [7, 8, 9, 12, 13, 14, 15, 16, 17, 18])
  (.seq (.reg [⟨(some 77), .mv, [.t 12], none⟩,
    ⟨(some 78), .mv, [.t 13], none⟩,
    ⟨(some 79), (.call (.pu [])), [.c (.fn 28 [] []), .t 77, .t 78], none⟩,
    ⟨(some 19), .mv, [.t 79], none⟩] [7, 8, 9, 12, 13, 14, 15, 16, 17, 18, 19])
  (.seq (.seq (.reg [⟨(some 80), .mv, [.t 16], none⟩,
    ⟨(some 81), (.binI .neq), [.t 80, .c (.i .i64 0)], none⟩,
    ⟨(some 82), .mv, [.t 81], none⟩,
    ⟨(some 83), .mv, [.t 15], (some (82, false))⟩,
    ⟨(some 84), .mv, [.t 19], (some (82, false))⟩,
    ⟨(some 85), (.eqB true), [.t 83, .t 84], (some (82, false))⟩,
    ⟨(some 86), .pick, [.t 82, .c (.b true), .t 85], none⟩,
    ⟨(some 87), .mv, [.t 86], none⟩,
    ⟨(some 88), .mv, [.t 19], (some (87, false))⟩,
    ⟨(some 89), .notB, [.t 88], (some (87, false))⟩,
    ⟨(some 90), .mv, [.t 89], (some (87, false))⟩,
    ⟨(some 91), .mv, [.t 18], (some (90, true))⟩,
    ⟨(some 92), (.binI .neq), [.t 91, .c (.i .i64 1)], (some (90, true))⟩,
    ⟨(some 93), .mv, [.t 92], (some (90, true))⟩,
    ⟨(some 94), .mv, [.t 17], (some (93, false))⟩,
    ⟨(some 95), (.binI .neq), [.t 94, .c (.i .i64 0)], (some (93, false))⟩,
    ⟨(some 96), .pick, [.t 93, .c (.b true), .t 95], (some (90, true))⟩,
    ⟨(some 97), .pick, [.t 90, .t 96, .c (.b false)], (some (87, false))⟩,
    ⟨(some 98), .pick, [.t 87, .c (.b true), .t 97], none⟩,
    ⟨(some 99), .mv, [.t 98], none⟩,
    ⟨(some 100), .mv, [.t 19], (some (99, false))⟩,
    ⟨(some 101), .mv, [.t 100], (some (99, false))⟩,
    ⟨(some 102), .mv, [.t 18], (some (101, true))⟩,
    ⟨(some 103), (.binI .neq), [.t 102, .c (.i .i64 0)], (some (101, true))⟩,
    ⟨(some 104), .mv, [.t 103], (some (101, true))⟩,
    ⟨(some 105), .mv, [.t 17], (some (104, false))⟩,
    ⟨(some 106), .mv, [.t 7], (some (104, false))⟩,
    ⟨(some 107), .mv, [.t 13], (some (104, false))⟩,
    ⟨(some 108), (.call (.pu [])), [.c (.fn 32 [] []), .t 106, .t 107], (some (104, false))⟩,
    ⟨(some 109), (.binI .neq), [.t 105, .t 108], (some (104, false))⟩,
    ⟨(some 110), .pick, [.t 104, .c (.b true), .t 109], (some (101, true))⟩,
    ⟨(some 111), .pick, [.t 101, .t 110, .c (.b false)], (some (99, false))⟩,
    ⟨(some 112), .pick, [.t 99, .c (.b true), .t 111], none⟩] [7, 8, 9, 12, 14, 112])
  (.cond (.t 112)
   (.seq (.reg [⟨(some 6), .mv, [.c (.b false)], none⟩] [6])
   .ret)
   .skip))
  (.reg [⟨(some 113), .mv, [.t 9], none⟩,
    ⟨(some 13), .mv, [.t 113], none⟩] [7, 8, 9, 12, 13, 14]))))))
 (.reg [⟨(some 63), .mv, [.t 14], none⟩,
   ⟨(some 64), (.binI .add), [.t 63, .c (.i .i64 1)], none⟩,
   ⟨(some 14), .mv, [.t 64], none⟩] [7, 8, 9, 12, 13, 14])))

def l4_1 : DC :=
 (.loop [7, 8, 9, 12, 13, 14] b4_0)

def c4 : DC :=
 (.seq (.reg [⟨(some 6), .mv, [.c (.b false)], none⟩] [0, 1, 2])
 (.seq (.reg [⟨(some 20), .mv, [.t 0], none⟩,
   ⟨(some 21), .mv, [.t 1], none⟩,
   ⟨(some 22), (.call (.pu [])), [.c (.fn 17 [] []), .t 20, .t 21, .c (.i .i64 5)], none⟩,
   ⟨(some 7), .mv, [.t 22], none⟩] [2, 7])
 (.seq (.reg [⟨(some 23), .mv, [.t 7], none⟩,
   ⟨(some 24), (.call (.pu [])), [.c (.fn 18 [] []), .t 23], none⟩,
   ⟨(some 8), .mv, [.t 24], none⟩] [2, 7, 8])
 (.seq (.reg [⟨(some 26), .mv, [.t 8], none⟩,
   ⟨(some 27), (.call (.pu [])), [.c (.fn 25 [] []), .t 26], none⟩,
   ⟨(some 25), .mv, [.t 27], none⟩,
   ⟨(some 28), (.ext 0), [.t 25], none⟩,
   ⟨(some 29), (.ext 1), [.t 25], none⟩,
   ⟨(some 30), (.ext 2), [.t 25], none⟩,
   ⟨(some 9), .mv, [.t 28], none⟩,
   ⟨(some 10), .mv, [.t 29], none⟩,
   ⟨(some 11), .mv, [.t 30], none⟩] [2, 7, 8, 9, 10, 11])
 (.seq (.reg [⟨(some 31), .mv, [.t 7], none⟩,
   ⟨(some 32), (.call (.pu [])), [.c (.fn 26 [] []), .t 31, .c (.i .i64 1), .c (.i .i64 1)], none⟩,
   ⟨(some 12), .mv, [.t 32], none⟩] [2, 7, 8, 9, 10, 11, 12])
 (.seq (.seq (.reg [⟨(some 33), .mv, [.t 11], none⟩,
   ⟨(some 34), (.binI .neq), [.t 33, .c (.i .i64 0)], none⟩,
   ⟨(some 35), .mv, [.t 34], none⟩,
   ⟨(some 36), .mv, [.t 10], (some (35, false))⟩,
   ⟨(some 37), .mv, [.t 12], (some (35, false))⟩,
   ⟨(some 38), (.call (.pu [])), [.c (.fn 27 [] []), .t 37], (some (35, false))⟩,
   ⟨(some 39), (.eqB true), [.t 36, .t 38], (some (35, false))⟩,
   ⟨(some 40), .pick, [.t 35, .c (.b true), .t 39], none⟩,
   ⟨(some 41), .mv, [.t 40], none⟩,
   ⟨(some 42), .mv, [.t 10], (some (41, false))⟩,
   ⟨(some 43), .mv, [.t 42], (some (41, false))⟩,
   ⟨(some 44), .mv, [.t 12], (some (43, true))⟩,
   ⟨(some 45), .mv, [.t 9], (some (43, true))⟩,
   ⟨(some 46), (.call (.pu [])), [.c (.fn 28 [] []), .t 44, .t 45], (some (43, true))⟩,
   ⟨(some 47), .notB, [.t 46], (some (43, true))⟩,
   ⟨(some 48), .pick, [.t 43, .t 47, .c (.b false)], (some (41, false))⟩,
   ⟨(some 49), .pick, [.t 41, .c (.b true), .t 48], none⟩,
   ⟨(some 50), .mv, [.t 49], none⟩,
   ⟨(some 51), .mv, [.t 10], (some (50, false))⟩,
   ⟨(some 52), .notB, [.t 51], (some (50, false))⟩,
   ⟨(some 53), .mv, [.t 52], (some (50, false))⟩,
   ⟨(some 54), .mv, [.t 9], (some (53, true))⟩,
   ⟨(some 55), (.len 0), [.t 54], (some (53, true))⟩,
   ⟨(some 56), (.binI .neq), [.t 55, .c (.i .i64 0)], (some (53, true))⟩,
   ⟨(some 57), .pick, [.t 53, .t 56, .c (.b false)], (some (50, false))⟩,
   ⟨(some 58), .pick, [.t 50, .c (.b true), .t 57], none⟩] [2, 7, 8, 9, 12, 58])
 (.cond (.t 58)
  (.seq (.reg [⟨(some 6), .mv, [.c (.b false)], none⟩] [6])
  .ret)
  .skip))
 (.seq (.reg [⟨(some 59), .mv, [.t 2], none⟩,
   ⟨(some 60), (.call (.pu [])), [.c (.fn 29 [] []), .t 59, .c (.i .i64 8)], none⟩,
   ⟨(some 13), .mv, [.t 60], none⟩] [7, 8, 9, 12, 13])
 (.seq (.seq (.reg [⟨(some 14), .mv, [.c (.i .i64 0)], none⟩] [7, 8, 9, 12, 13, 14])
 (.block 0
  l4_1))
 (.seq (.reg [⟨(some 114), (.call (.pu [])), [.c (.fn 24 [] [])], none⟩,
   ⟨(some 6), .mv, [.t 114], none⟩] [6])
 .ret)))))))))

def b5_0 : DC :=
 (.seq (.seq (.reg [⟨(some 25), .mv, [.t 11], none⟩,
   ⟨(some 26), (.binI .lss), [.t 25, .c (.i .i64 2)], none⟩] [7, 8, 9, 10, 11, 26])
 (.cond (.t 26)
  .skip
  (.exit 0)))
 (.seq (.block 1
  (.seq (.reg [⟨(some 30), .mv, [.t 8], none⟩,
    ⟨(some 31), .mv, [.t 9], none⟩,
    ⟨(some 32), .mv, [.t 10], none⟩,
    ⟨(some 33), (.call (.pu [])), [.c (.fn 33 [] []), .t 30, .t 31, .t 32], none⟩,
    ⟨(some 29), .mv, [.t 33], none⟩,
    ⟨(some 34), (.ext 0), [.t 29], none⟩,
    ⟨(some 35), (.ext 1), [.t 29], none⟩,
    ⟨(some 36), (.ext 2), [.t 29], none⟩,
    ⟨(some 12), .mv, [.t 34], none⟩,
    ⟨(some 13), .mv, [.t 35], none⟩,
    ⟨(some 14), .mv, [.t 36], none⟩] [7, 8, 9, 10, 11, 12, 13, 14])
  (.seq (.seq (.reg [⟨(some 37), .mv, [.t 9], none⟩,
    ⟨(some 38), (.binI .lss), [.t 37, .c (.i .i64 0)], none⟩,
    ⟨(some 39), .mv, [.t 38], none⟩,
    ⟨(some 40), .mv, [.t 9], (some (39, false))⟩,
    ⟨(some 41), .mv, [.t 10], (some (39, false))⟩,
    ⟨(some 42), (.binI .gtr), [.t 40, .t 41], (some (39, false))⟩,
    ⟨(some 43), .pick, [.t 39, .c (.b true), .t 42], none⟩,
    ⟨(some 44), .mv, [.t 43], none⟩,
    ⟨(some 45), .mv, [.t 10], (some (44, false))⟩,
    ⟨(some 46), (.binI .lss), [.t 45, .c (.i .i64 1)], (some (44, false))⟩,
    ⟨(some 47), .pick, [.t 44, .c (.b true), .t 46], none⟩,
    ⟨(some 48), .mv, [.t 47], none⟩,
    ⟨(some 49), .mv, [.t 10], (some (48, false))⟩,
    ⟨(some 50), (.binI .gtr), [.t 49, .c (.i .i64 2000)], (some (48, false))⟩,
    ⟨(some 51), .pick, [.t 48, .c (.b true), .t 50], none⟩] [7, 8, 9, 10, 11, 12, 13, 14, 51])
  (.cond (.t 51)
   (.seq (.reg [⟨(some 52), .mv, [.t 14], none⟩,
     ⟨(some 53), (.binI .neq), [.t 52, .c (.i .i64 1)], none⟩,
     ⟨(some 54), .mv, [.t 53], none⟩,
     ⟨(some 55), .mv, [.t 13], (some (54, false))⟩,
     ⟨(some 56), .pick, [.t 54, .c (.b true), .t 55], none⟩,
     ⟨(some 57), .mv, [.t 56], none⟩,
     ⟨(some 58), .mv, [.t 12], (some (57, false))⟩,
     ⟨(some 59), (.len 0), [.t 58], (some (57, false))⟩,
     ⟨(some 60), (.binI .neq), [.t 59, .c (.i .i64 0)], (some (57, false))⟩,
     ⟨(some 61), .pick, [.t 57, .c (.b true), .t 60], none⟩] [7, 8, 9, 10, 11, 61])
   (.cond (.t 61)
    (.seq (.reg [⟨(some 6), .mv, [.c (.b false)], none⟩] [6])
    .ret)
    .skip))
   (.seq (.reg [⟨(some 62), .mv, [.t 7], none⟩,
     ⟨(some 63), .mv, [.t 9], none⟩,
     ⟨(some 64), .mv, [.t 10], none⟩,
     ⟨(some 65), (.call (.pu [])), [.c (.fn 26 [] []), .t 62, .t 63, .t 64], none⟩,
     ⟨(some 15), .mv, [.t 65], none⟩] [7, 8, 9, 10, 11, 12, 13, 14, 15])
   (.seq (.reg [⟨(some 66), .mv, [.t 14], none⟩,
     ⟨(some 67), (.binI .neq), [.t 66, .c (.i .i64 0)], none⟩,
     ⟨(some 68), .mv, [.t 67], none⟩,
     ⟨(some 69), .mv, [.t 13], (some (68, false))⟩,
     ⟨(some 70), .mv, [.t 15], (some (68, false))⟩,
     ⟨(some 71), (.call (.pu [])), [.c (.fn 27 [] []), .t 70], (some (68, false))⟩,
     ⟨(some 72), (.eqB true), [.t 69, .t 71], (some (68, false))⟩,
     ⟨(some 73), .pick, [.t 68, .c (.b true), .t 72], none⟩,
     ⟨(some 74), .mv, [.t 73], none⟩,
     ⟨(some 75), .mv, [.t 13], (some (74, false))⟩,
     ⟨(some 76), .mv, [.t 75], (some (74, false))⟩,
     ⟨(some 77), .mv, [.t 15], (some (76, true))⟩,
     ⟨(some 78), .mv, [.t 12], (some (76, true))⟩,
     ⟨(some 79), (.call (.pu [])), [.c (.fn 28 [] []), .t 77, .t 78], (some (76, true))⟩,
     ⟨(some 80), .notB, [.t 79], (some (76, true))⟩,
     ⟨(some 81), .pick, [.t 76, .t 80, .c (.b false)], (some (74, false))⟩,
     ⟨(some 82), .pick, [.t 74, .c (.b true), .t 81], none⟩,
     ⟨(some 83), .mv, [.t 82], none⟩,
     ⟨(some 84), .mv, [.t 13], (some (83, false))⟩,
     ⟨(some 85), .notB, [.t 84], (some (83, false))⟩,
     ⟨(some 86), .mv, [.t 85], (some (83, false))⟩,
     ⟨(some 87), .mv, [.t 12], (some (86, true))⟩,
     ⟨(some 88), (.len 0), [.t 87], (some (86, true))⟩,
     ⟨(some 89), (.binI .neq), [.t 88, .c (.i .i64 0)], (some (86, true))⟩,
     ⟨(some 90), .pick, [.t 86, .t 89, .c (.b false)], (some (83, false))⟩,
     ⟨(some 91), .pick, [.t 83, .c (.b true), .t 90], none⟩] [7, 8, 9, 10, 11, 91])
   (.cond (.t 91)
    (.seq (.reg [⟨(some 6), .mv, [.c (.b false)], none⟩] [6])
    .ret)
    .skip)))))
  (.seq (.reg [⟨(some 92), .mv, [.t 10], none⟩,
    ⟨(some 93), (.conv .u64), [.t 92], none⟩,
    ⟨(some 94), (.binI .rem), [.t 93, .c (.i .u64 2000)], none⟩,
    ⟨(some 95), (.conv .i64), [.t 94], none⟩,
    ⟨(some 96), (.binI .add), [.c (.i .i64 1), .t 95], none⟩,
    ⟨(some 10), .mv, [.t 96], none⟩] [7, 8, 9, 10, 11])
  (.reg [⟨(some 97), .mv, [.t 9], none⟩,
    ⟨(some 98), (.conv .u64), [.t 97], none⟩,
    ⟨(some 99), .mv, [.t 10], none⟩,
    ⟨(some 100), (.binI .add), [.t 99, .c (.i .i64 1)], none⟩,
    ⟨(some 101), (.conv .u64), [.t 100], none⟩,
    ⟨(some 102), (.binI .rem), [.t 98, .t 101], none⟩,
    ⟨(some 103), (.conv .i64), [.t 102], none⟩,
    ⟨(some 9), .mv, [.t 103], none⟩] [7, 8, 9, 10, 11])))))
 (.reg [⟨(some 27), .mv, [.t 11], none⟩,
   ⟨(some 28), (.binI .add), [.t 27, .c (.i .i64 1)], none⟩,
   ⟨(some 11), .mv, [.t 28], none⟩] [7, 8, 9, 10, 11])))

def l5_1 : DC :=
 (.loop [7, 8, 9, 10, 11] b5_0)

def c5 : DC :=
 (.seq (.reg [⟨(some 5), (.box true), [.t 2], none⟩,
   ⟨(some 6), .mv, [.c (.b false)], none⟩] [0, 1, 5])
 (.seq (.reg [⟨(some 16), .mv, [.t 0], none⟩,
   ⟨(some 17), .mv, [.t 1], none⟩,
   ⟨(some 18), (.call (.pu [])), [.c (.fn 17 [] []), .t 16, .t 17, .c (.i .i64 5)], none⟩,
   ⟨(some 7), .mv, [.t 18], none⟩] [5, 7])
 (.seq (.reg [⟨(some 19), .mv, [.t 7], none⟩,
   ⟨(some 20), (.call (.pu [])), [.c (.fn 18 [] []), .t 19], none⟩,
   ⟨(some 8), .mv, [.t 20], none⟩] [5, 7, 8])
 (.seq (.reg [⟨(some 21), (.ixA 2 1 false), [.t 5, .c (.i .i64 0)], none⟩,
   ⟨(some 22), (.ld 1 false), [.t 21], none⟩,
   ⟨(some 23), (.ixA 2 1 false), [.t 5, .c (.i .i64 1)], none⟩,
   ⟨(some 24), (.ld 1 false), [.t 23], none⟩,
   ⟨(some 9), .mv, [.t 22], none⟩,
   ⟨(some 10), .mv, [.t 24], none⟩] [7, 8, 9, 10])
 (.seq (.seq (.reg [⟨(some 11), .mv, [.c (.i .i64 0)], none⟩] [7, 8, 9, 10, 11])
 (.block 0
  l5_1))
 (.seq (.reg [⟨(some 104), (.call (.pu [])), [.c (.fn 24 [] [])], none⟩,
   ⟨(some 6), .mv, [.t 104], none⟩] [6])
 .ret))))))

def b6_0 : DC :=
 (.seq (.seq (.reg [⟨(some 142), .mv, [.t 23], none⟩,
   ⟨(some 143), .mv, [.t 13], none⟩,
   ⟨(some 144), (.len 0), [.t 143], none⟩,
   ⟨(some 145), (.binI .lss), [.t 142, .t 144], none⟩] [5, 13, 21, 22, 23, 145])
 (.cond (.t 145)
  .skip
  (.exit 0)))
 (.seq (.block 1
  (.seq (.seq (.reg [⟨(some 148), .mv, [.t 13], none⟩,
    ⟨(some 149), .mv, [.t 23], none⟩,
    ⟨(some 150), (.ixS 1 false), [.t 148, .t 149], none⟩,
    ⟨(some 151), (.ld 1 false), [.t 150], none⟩,
    ⟨(some 152), (.binI .lss), [.t 151, .c (.i .i64 0)], none⟩,
    ⟨(some 153), .mv, [.t 152], none⟩,
    ⟨(some 154), .mv, [.t 13], (some (153, false))⟩,
    ⟨(some 155), .mv, [.t 23], (some (153, false))⟩,
    ⟨(some 156), (.ixS 1 false), [.t 154, .t 155], (some (153, false))⟩,
    ⟨(some 157), (.ld 1 false), [.t 156], (some (153, false))⟩,
    ⟨(some 158), .mv, [.t 5], (some (153, false))⟩,
    ⟨(some 159), (.len 0), [.t 158], (some (153, false))⟩,
    ⟨(some 160), (.binI .geq), [.t 157, .t 159], (some (153, false))⟩,
    ⟨(some 161), .pick, [.t 153, .c (.b true), .t 160], none⟩,
    ⟨(some 162), .mv, [.t 161], none⟩,
    ⟨(some 163), .mv, [.t 23], (some (162, false))⟩,
    ⟨(some 164), (.binI .gtr), [.t 163, .c (.i .i64 0)], (some (162, false))⟩,
    ⟨(some 165), .mv, [.t 164], (some (162, false))⟩,
    ⟨(some 166), .mv, [.t 13], (some (165, true))⟩,
    ⟨(some 167), .mv, [.t 23], (some (165, true))⟩,
    ⟨(some 168), (.binI .sub), [.t 167, .c (.i .i64 1)], (some (165, true))⟩,
    ⟨(some 169), (.ixS 1 false), [.t 166, .t 168], (some (165, true))⟩,
    ⟨(some 170), (.ld 1 false), [.t 169], (some (165, true))⟩,
    ⟨(some 171), .mv, [.t 13], (some (165, true))⟩,
    ⟨(some 172), .mv, [.t 23], (some (165, true))⟩,
    ⟨(some 173), (.ixS 1 false), [.t 171, .t 172], (some (165, true))⟩,
    ⟨(some 174), (.ld 1 false), [.t 173], (some (165, true))⟩,
    ⟨(some 175), (.binI .geq), [.t 170, .t 174], (some (165, true))⟩,
    ⟨(some 176), .pick, [.t 165, .t 175, .c (.b false)], (some (162, false))⟩,
    ⟨(some 177), .pick, [.t 162, .c (.b true), .t 176], none⟩] [5, 13, 21, 22, 23, 177])
  (.cond (.t 177)
   (.seq (.reg [⟨(some 4), .mv, [.c (.b false)], none⟩] [4])
   .ret)
   .skip))
  (.seq (.reg [⟨(some 178), .mv, [.t 21], none⟩,
    ⟨(some 179), .mv, [.t 13], none⟩,
    ⟨(some 180), .mv, [.t 23], none⟩,
    ⟨(some 181), (.ixS 1 false), [.t 179, .t 180], none⟩,
    ⟨(some 182), (.ld 1 false), [.t 181], none⟩,
    ⟨(some 183), (.ixS 1 false), [.t 178, .t 182], none⟩,
    ⟨none, (.st 1), [.t 183, .c (.b true)], none⟩] [5, 13, 21, 22, 23])
  (.reg [⟨(some 184), .mv, [.t 22], none⟩,
    ⟨(some 185), .mv, [.t 5], none⟩,
    ⟨(some 186), .mv, [.t 13], none⟩,
    ⟨(some 187), .mv, [.t 23], none⟩,
    ⟨(some 188), (.ixS 1 false), [.t 186, .t 187], none⟩,
    ⟨(some 189), (.ld 1 false), [.t 188], none⟩,
    ⟨(some 190), .mv, [.t 13], none⟩,
    ⟨(some 191), .mv, [.t 23], none⟩,
    ⟨(some 192), (.ixS 1 false), [.t 190, .t 191], none⟩,
    ⟨(some 193), (.ld 1 false), [.t 192], none⟩,
    ⟨(some 194), (.binI .add), [.t 193, .c (.i .i64 1)], none⟩,
    ⟨(some 195), (.slc true true false 2 true), [.t 185, .t 189, .t 194], none⟩,
    ⟨(some 196), (.call (.pu [])), [.c (.fn 18 [] []), .t 195], none⟩,
    ⟨(some 197), (.app 2 true 48), [.t 184, .t 196], none⟩,
    ⟨(some 22), .mv, [.t 197], none⟩] [5, 13, 21, 22, 23]))))
 (.reg [⟨(some 146), .mv, [.t 23], none⟩,
   ⟨(some 147), (.binI .add), [.t 146, .c (.i .i64 1)], none⟩,
   ⟨(some 23), .mv, [.t 147], none⟩] [5, 13, 21, 22, 23])))

def l6_1 : DC :=
 (.loop [5, 13, 21, 22, 23] b6_0)

def b6_2 : DC :=
 (.seq (.seq (.reg [⟨(some 209), .mv, [.t 27], none⟩,
   ⟨(some 210), .mv, [.t 5], none⟩,
   ⟨(some 211), (.len 0), [.t 210], none⟩,
   ⟨(some 212), (.binI .lss), [.t 209, .t 211], none⟩] [5, 21, 22, 27, 212])
 (.cond (.t 212)
  .skip
  (.exit 2)))
 (.seq (.block 3
  (.seq (.seq (.reg [⟨(some 215), .mv, [.t 21], none⟩,
    ⟨(some 216), .mv, [.t 27], none⟩,
    ⟨(some 217), (.ixS 1 false), [.t 215, .t 216], none⟩,
    ⟨(some 218), (.ld 1 false), [.t 217], none⟩] [5, 21, 22, 27, 218])
  (.cond (.t 218)
   (.exit 3)
   .skip))
  (.seq (.reg [⟨(some 28), .mv, [.c .nilsl], none⟩] [5, 21, 22, 27, 28])
  (.seq (.reg [⟨(some 219), .mv, [.t 28], none⟩,
    ⟨(some 220), .mv, [.t 22], none⟩,
    ⟨(some 221), (.app 2 true 48), [.t 219, .t 220], none⟩,
    ⟨(some 28), .mv, [.t 221], none⟩] [5, 21, 22, 27, 28])
  (.seq (.reg [⟨(some 222), .mv, [.t 28], none⟩,
    ⟨(some 223), .mv, [.t 5], none⟩,
    ⟨(some 224), .mv, [.t 27], none⟩,
    ⟨(some 225), .mv, [.t 27], none⟩,
    ⟨(some 226), (.binI .add), [.t 225, .c (.i .i64 1)], none⟩,
    ⟨(some 227), (.slc true true false 2 true), [.t 223, .t 224, .t 226], none⟩,
    ⟨(some 228), (.call (.pu [])), [.c (.fn 18 [] []), .t 227], none⟩,
    ⟨(some 229), (.app 2 true 48), [.t 222, .t 228], none⟩,
    ⟨(some 28), .mv, [.t 229], none⟩] [5, 21, 22, 27, 28])
  (.seq (.reg [⟨(some 231), .mv, [.t 28], none⟩,
    ⟨(some 232), (.call (.pu [])), [.c (.fn 25 [] []), .t 231], none⟩,
    ⟨(some 230), .mv, [.t 232], none⟩,
    ⟨(some 233), (.ext 0), [.t 230], none⟩,
    ⟨(some 234), (.ext 1), [.t 230], none⟩,
    ⟨(some 235), (.ext 2), [.t 230], none⟩,
    ⟨(some 29), .mv, [.t 233], none⟩,
    ⟨(some 30), .mv, [.t 234], none⟩,
    ⟨(some 31), .mv, [.t 235], none⟩] [5, 21, 22, 27, 30, 31])
  (.seq (.reg [⟨(some 236), .mv, [.t 31], none⟩,
    ⟨(some 237), (.binI .neq), [.t 236, .c (.i .i64 0)], none⟩,
    ⟨(some 238), .mv, [.t 237], none⟩,
    ⟨(some 239), .mv, [.t 30], (some (238, false))⟩,
    ⟨(some 240), .notB, [.t 239], (some (238, false))⟩,
    ⟨(some 241), .pick, [.t 238, .c (.b true), .t 240], none⟩] [5, 21, 22, 27, 241])
  (.cond (.t 241)
   (.seq (.reg [⟨(some 4), .mv, [.c (.b false)], none⟩] [4])
   .ret)
   .skip))))))))
 (.reg [⟨(some 213), .mv, [.t 27], none⟩,
   ⟨(some 214), (.binI .add), [.t 213, .c (.i .i64 1)], none⟩,
   ⟨(some 27), .mv, [.t 214], none⟩] [5, 21, 22, 27])))

def l6_3 : DC :=
 (.loop [5, 21, 22, 27] b6_2)

def c6 : DC :=
 (.seq (.reg [⟨(some 4), .mv, [.c (.b false)], none⟩] [0, 1])
 (.seq (.reg [⟨(some 32), .mv, [.t 0], none⟩,
   ⟨(some 33), .mv, [.t 1], none⟩,
   ⟨(some 34), (.call (.pu [])), [.c (.fn 17 [] []), .t 32, .t 33, .c (.i .i64 5)], none⟩,
   ⟨(some 5), .mv, [.t 34], none⟩] [5])
 (.seq (.reg [⟨(some 35), .mv, [.t 5], none⟩,
   ⟨(some 36), (.call (.pu [])), [.c (.fn 18 [] []), .t 35], none⟩,
   ⟨(some 6), .mv, [.t 36], none⟩] [5, 6])
 (.seq (.reg [⟨(some 38), .mv, [.t 6], none⟩,
   ⟨(some 39), (.call (.pu [])), [.c (.fn 19 [] []), .t 38], none⟩,
   ⟨(some 37), .mv, [.t 39], none⟩,
   ⟨(some 40), (.ext 0), [.t 37], none⟩,
   ⟨(some 41), (.ext 1), [.t 37], none⟩,
   ⟨(some 42), (.ext 2), [.t 37], none⟩,
   ⟨(some 7), .mv, [.t 40], none⟩,
   ⟨(some 8), .mv, [.t 41], none⟩,
   ⟨(some 9), .mv, [.t 42], none⟩] [5, 6, 7, 8, 9])
 (.seq (.reg [⟨(some 44), .mv, [.t 6], none⟩,
   ⟨(some 45), (.call (.pu [])), [.c (.fn 25 [] []), .t 44], none⟩,
   ⟨(some 43), .mv, [.t 45], none⟩,
   ⟨(some 46), (.ext 0), [.t 43], none⟩,
   ⟨(some 47), (.ext 1), [.t 43], none⟩,
   ⟨(some 48), (.ext 2), [.t 43], none⟩,
   ⟨(some 10), .mv, [.t 46], none⟩,
   ⟨(some 11), .mv, [.t 47], none⟩,
   ⟨(some 12), .mv, [.t 48], none⟩] [5, 6, 7, 8, 9, 11, 12])
 (.seq (.reg [⟨(some 50), .mv, [.t 6], none⟩,
   ⟨(some 51), (.call (.pu [])), [.c (.fn 20 [] []), .t 50], none⟩,
   ⟨(some 49), .mv, [.t 51], none⟩,
   ⟨(some 52), (.ext 0), [.t 49], none⟩,
   ⟨(some 53), (.ext 1), [.t 49], none⟩,
   ⟨(some 13), .mv, [.t 52], none⟩,
   ⟨(some 14), .mv, [.t 53], none⟩] [5, 6, 7, 8, 9, 11, 12, 13, 14])
 (.seq (.seq (.reg [⟨(some 54), .mv, [.t 9], none⟩,
   ⟨(some 55), (.binI .neq), [.t 54, .c (.i .i64 0)], none⟩,
   ⟨(some 56), .mv, [.t 55], none⟩,
   ⟨(some 57), .mv, [.t 12], (some (56, false))⟩,
   ⟨(some 58), (.binI .neq), [.t 57, .c (.i .i64 0)], (some (56, false))⟩,
   ⟨(some 59), .pick, [.t 56, .c (.b true), .t 58], none⟩,
   ⟨(some 60), .mv, [.t 59], none⟩,
   ⟨(some 61), .mv, [.t 14], (some (60, false))⟩,
   ⟨(some 62), (.binI .neq), [.t 61, .c (.i .i64 0)], (some (60, false))⟩,
   ⟨(some 63), .pick, [.t 60, .c (.b true), .t 62], none⟩,
   ⟨(some 64), .mv, [.t 63], none⟩,
   ⟨(some 65), .mv, [.t 7], (some (64, false))⟩,
   ⟨(some 66), (.binI .lss), [.t 65, .c (.i .i64 1)], (some (64, false))⟩,
   ⟨(some 67), .pick, [.t 64, .c (.b true), .t 66], none⟩,
   ⟨(some 68), .mv, [.t 67], none⟩,
   ⟨(some 69), .mv, [.t 7], (some (68, false))⟩,
   ⟨(some 70), .mv, [.t 8], (some (68, false))⟩,
   ⟨(some 71), (.binI .gtr), [.t 69, .t 70], (some (68, false))⟩,
   ⟨(some 72), .pick, [.t 68, .c (.b true), .t 71], none⟩,
   ⟨(some 73), .mv, [.t 72], none⟩,
   ⟨(some 74), .mv, [.t 8], (some (73, false))⟩,
   ⟨(some 75), (.binI .gtr), [.t 74, .c (.i .i64 2000)], (some (73, false))⟩,
   ⟨(some 76), .pick, [.t 73, .c (.b true), .t 75], none⟩,
   ⟨(some 77), .mv, [.t 76], none⟩,
   ⟨(some 78), .mv, [.t 11], (some (77, false))⟩,
   ⟨(some 79), .notB, [.t 78], (some (77, false))⟩,
   ⟨(some 80), .mv, [.t 79], (some (77, false))⟩,
   ⟨(some 81), .mv, [.t 7], (some (80, true))⟩,
   ⟨(some 82), .mv, [.t 8], (some (80, true))⟩,
   ⟨(some 83), (.binI .neq), [.t 81, .t 82], (some (80, true))⟩,
   ⟨(some 84), .pick, [.t 80, .t 83, .c (.b false)], (some (77, false))⟩,
   ⟨(some 85), .pick, [.t 77, .c (.b true), .t 84], none⟩,
   ⟨(some 86), .mv, [.t 85], none⟩,
   ⟨(some 87), .mv, [.t 13], (some (86, false))⟩,
   ⟨(some 88), (.len 0), [.t 87], (some (86, false))⟩,
   ⟨(some 89), (.binI .lss), [.t 88, .c (.i .i64 1)], (some (86, false))⟩,
   ⟨(some 90), .pick, [.t 86, .c (.b true), .t 89], none⟩,
   ⟨(some 91), .mv, [.t 90], none⟩,
   ⟨(some 92), .mv, [.t 13], (some (91, false))⟩,
   ⟨(some 93), (.len 0), [.t 92], (some (91, false))⟩,
   ⟨(some 94), .mv, [.t 5], (some (91, false))⟩,
   ⟨(some 95), (.len 0), [.t 94], (some (91, false))⟩,
   ⟨(some 96), (.binI .gtr), [.t 93, .t 95], (some (91, false))⟩,
   ⟨(some 97), .pick, [.t 91, .c (.b true), .t 96], none⟩,
   ⟨(some 98), .mv, [.t 97], none⟩,
   ⟨(some 99), .mv, [.t 13], (some (98, false))⟩,
   ⟨(some 100), (.len 0), [.t 99], (some (98, false))⟩,
   ⟨(some 101), .mv, [.t 5], (some (98, false))⟩,
   ⟨(some 102), (.len 0), [.t 101], (some (98, false))⟩,
   ⟨(some 103), (.binI .eql), [.t 100, .t 102], (some (98, false))⟩,
   ⟨(some 104), .mv, [.t 11], (some (98, false))⟩,
   ⟨(some 105), (.eqB false), [.t 103, .t 104], (some (98, false))⟩,
   ⟨(some 106), .pick, [.t 98, .c (.b true), .t 105], none⟩] [5, 6, 7, 8, 13, 106])
 (.cond (.t 106)
  (.seq (.reg [⟨(some 4), .mv, [.c (.b false)], none⟩] [4])
  .ret)
  .skip))
 (.seq (.seq (.reg [⟨(some 108), .mv, [.t 6], none⟩,
   ⟨(some 109), .mv, [.t 7], none⟩,
   ⟨(some 110), (.binI .sub), [.t 109, .c (.i .i64 1)], none⟩,
   ⟨(some 111), .mv, [.t 8], none⟩,
   ⟨(some 112), (.call (.pu [])), [.c (.fn 33 [] []), .t 108, .t 110, .t 111], none⟩,
   ⟨(some 107), .mv, [.t 112], none⟩,
   ⟨(some 113), (.ext 0), [.t 107], none⟩,
   ⟨(some 114), (.ext 1), [.t 107], none⟩,
   ⟨(some 115), (.ext 2), [.t 107], none⟩,
   ⟨(some 15), .mv, [.t 113], none⟩,
   ⟨(some 16), .mv, [.t 114], none⟩,
   ⟨(some 17), .mv, [.t 115], none⟩] [5, 6, 7, 8, 13, 16, 17])
 (.seq (.reg [⟨(some 116), .mv, [.t 17], none⟩,
   ⟨(some 117), (.binI .neq), [.t 116, .c (.i .i64 0)], none⟩,
   ⟨(some 118), .mv, [.t 117], none⟩,
   ⟨(some 119), .mv, [.t 16], (some (118, false))⟩,
   ⟨(some 120), .pick, [.t 118, .c (.b true), .t 119], none⟩] [5, 6, 7, 8, 13, 120])
 (.cond (.t 120)
  (.seq (.reg [⟨(some 4), .mv, [.c (.b false)], none⟩] [4])
  .ret)
  .skip)))
 (.seq (.seq (.reg [⟨(some 121), .mv, [.t 7], none⟩,
   ⟨(some 122), .mv, [.t 8], none⟩,
   ⟨(some 123), (.binI .lss), [.t 121, .t 122], none⟩] [5, 6, 7, 8, 13, 123])
 (.cond (.t 123)
  (.seq (.reg [⟨(some 125), .mv, [.t 6], none⟩,
    ⟨(some 126), .mv, [.t 7], none⟩,
    ⟨(some 127), (.binI .add), [.t 126, .c (.i .i64 1)], none⟩,
    ⟨(some 128), .mv, [.t 8], none⟩,
    ⟨(some 129), (.call (.pu [])), [.c (.fn 33 [] []), .t 125, .t 127, .t 128], none⟩,
    ⟨(some 124), .mv, [.t 129], none⟩,
    ⟨(some 130), (.ext 0), [.t 124], none⟩,
    ⟨(some 131), (.ext 1), [.t 124], none⟩,
    ⟨(some 132), (.ext 2), [.t 124], none⟩,
    ⟨(some 18), .mv, [.t 130], none⟩,
    ⟨(some 19), .mv, [.t 131], none⟩,
    ⟨(some 20), .mv, [.t 132], none⟩] [5, 13, 19, 20])
  (.seq (.reg [⟨(some 133), .mv, [.t 20], none⟩,
    ⟨(some 134), (.binI .neq), [.t 133, .c (.i .i64 0)], none⟩,
    ⟨(some 135), .mv, [.t 134], none⟩,
    ⟨(some 136), .mv, [.t 19], (some (135, false))⟩,
    ⟨(some 137), .notB, [.t 136], (some (135, false))⟩,
    ⟨(some 138), .pick, [.t 135, .c (.b true), .t 137], none⟩] [5, 13, 138])
  (.cond (.t 138)
   (.seq (.reg [⟨(some 4), .mv, [.c (.b false)], none⟩] [4])
   .ret)
   .skip)))
  .skip))
 (.seq (.reg [⟨(some 139), .mv, [.t 5], none⟩,
   ⟨(some 140), (.len 0), [.t 139], none⟩,
   ⟨(some 141), (.mksl [(.b false)] false 1), [.t 140, .t 140], none⟩,
   ⟨(some 21), .mv, [.t 141], none⟩] [5, 13, 21])
 (.seq (.reg [⟨(some 22), .mv, [.c .nilsl], none⟩] [5, 13, 21, 22])
 (.seq (.seq (.reg [⟨(some 23), .mv, [.c (.i .i64 0)], none⟩] [5, 13, 21, 22, 23])
 (.block 0
  l6_1))
 (.seq (.seq (.reg [⟨(some 199), .mv, [.t 22], none⟩,
   ⟨(some 200), (.call (.pu [])), [.c (.fn 25 [] []), .t 199], none⟩,
   ⟨(some 198), .mv, [.t 200], none⟩,
   ⟨(some 201), (.ext 0), [.t 198], none⟩,
   ⟨(some 202), (.ext 1), [.t 198], none⟩,
   ⟨(some 203), (.ext 2), [.t 198], none⟩,
   ⟨(some 24), .mv, [.t 201], none⟩,
   ⟨(some 25), .mv, [.t 202], none⟩,
   ⟨(some 26), .mv, [.t 203], none⟩] [5, 21, 22, 25, 26])
 (.seq (.reg [⟨(some 204), .mv, [.t 26], none⟩,
   ⟨(some 205), (.binI .neq), [.t 204, .c (.i .i64 0)], none⟩,
   ⟨(some 206), .mv, [.t 205], none⟩,
   ⟨(some 207), .mv, [.t 25], (some (206, false))⟩,
   ⟨(some 208), .pick, [.t 206, .c (.b true), .t 207], none⟩] [5, 21, 22, 208])
 (.cond (.t 208)
  (.seq (.reg [⟨(some 4), .mv, [.c (.b false)], none⟩] [4])
  .ret)
  .skip)))
 (.seq (.seq (.reg [⟨(some 27), .mv, [.c (.i .i64 0)], none⟩] [5, 21, 22, 27])
 (.block 2
  l6_3))
 (.seq (.reg [⟨(some 242), (.call (.pu [])), [.c (.fn 24 [] [])], none⟩,
   ⟨(some 4), .mv, [.t 242], none⟩] [4])
 .ret)))))))))))))))

def b7_0 : DC :=
 (.seq (.seq (.reg [⟨(some 54), .mv, [.t 16], none⟩,
   ⟨(some 55), .mv, [.t 7], none⟩,
   ⟨(some 56), .mv, [.t 15], none⟩,
   ⟨(some 57), (.ixS 1 false), [.t 55, .t 56], none⟩,
   ⟨(some 58), (.ld 1 false), [.t 57], none⟩,
   ⟨(some 59), (.len 0), [.t 58], none⟩,
   ⟨(some 60), (.binI .lss), [.t 54, .t 59], none⟩] [5, 6, 7, 8, 9, 10, 11, 12, 14, 15, 16, 60])
 (.cond (.t 60)
  .skip
  (.exit 2)))
 (.seq (.block 3
  (.seq (.reg [⟨(some 63), .mv, [.t 7], none⟩,
    ⟨(some 64), .mv, [.t 15], none⟩,
    ⟨(some 65), (.ixS 1 false), [.t 63, .t 64], none⟩,
    ⟨(some 66), (.ld 1 false), [.t 65], none⟩,
    ⟨(some 17), .mv, [.t 66], none⟩] [5, 6, 7, 8, 9, 10, 11, 12, 14, 15, 16, 17])
  (.reg [⟨(some 67), .mv, [.t 17], none⟩,
    ⟨(some 68), .mv, [.t 16], none⟩,
    ⟨(some 69), (.ixS 1 false), [.t 67, .t 68], none⟩,
    ⟨none, (.st 1), [.t 69, .c (.i .i64 (-1))], none⟩] [5, 6, 7, 8, 9, 10, 11, 12, 14, 15, 16])))
 (.reg [⟨(some 61), .mv, [.t 16], none⟩,
   ⟨(some 62), (.binI .add), [.t 61, .c (.i .i64 1)], none⟩,
   ⟨(some 16), .mv, [.t 62], none⟩] [5, 6, 7, 8, 9, 10, 11, 12, 14, 15, 16])))

def l7_1 : DC :=
 (.loop [5, 6, 7, 8, 9, 10, 11, 12, 14, 15, 16] b7_0)

def b7_2 : DC :=
 (.seq (.seq (.reg [⟨(some 48), .mv, [.t 15], none⟩,
   ⟨(some 49), .mv, [.t 7], none⟩,
   ⟨(some 50), (.len 0), [.t 49], none⟩,
   ⟨(some 51), (.binI .lss), [.t 48, .t 50], none⟩] [5, 6, 7, 8, 9, 10, 11, 12, 14, 15, 51])
 (.cond (.t 51)
  .skip
  (.exit 0)))
 (.seq (.block 1
  (.seq (.reg [⟨(some 16), .mv, [.c (.i .i64 0)], none⟩] [5, 6, 7, 8, 9, 10, 11, 12, 14, 15, 16])
  (.block 2
   l7_1)))
 (.reg [⟨(some 52), .mv, [.t 15], none⟩,
   ⟨(some 53), (.binI .add), [.t 52, .c (.i .i64 1)], none⟩,
   ⟨(some 15), .mv, [.t 53], none⟩] [5, 6, 7, 8, 9, 10, 11, 12, 14, 15])))

def l7_3 : DC :=
 (.loop [5, 6, 7, 8, 9, 10, 11, 12, 14, 15] b7_2)

def b7_4 : DC :=
 (.seq (.seq (.reg [⟨(some 70), .mv, [.t 18], none⟩,
   ⟨(some 71), .mv, [.t 9], none⟩,
   ⟨(some 72), (.len 0), [.t 71], none⟩,
   ⟨(some 73), (.binI .lss), [.t 70, .t 72], none⟩] [5, 6, 8, 9, 10, 11, 12, 14, 18, 73])
 (.cond (.t 73)
  .skip
  (.exit 4)))
 (.seq (.block 5
  (.reg [⟨(some 76), .mv, [.t 9], none⟩,
    ⟨(some 77), .mv, [.t 18], none⟩,
    ⟨(some 78), (.ixS 1 false), [.t 76, .t 77], none⟩,
    ⟨none, (.st 1), [.t 78, .c (.i .i64 (-1))], none⟩] [5, 6, 8, 9, 10, 11, 12, 14, 18]))
 (.reg [⟨(some 74), .mv, [.t 18], none⟩,
   ⟨(some 75), (.binI .add), [.t 74, .c (.i .i64 1)], none⟩,
   ⟨(some 18), .mv, [.t 75], none⟩] [5, 6, 8, 9, 10, 11, 12, 14, 18])))

def l7_5 : DC :=
 (.loop [5, 6, 8, 9, 10, 11, 12, 14, 18] b7_4)

def b7_6 : DC :=
 (.seq (.seq (.reg [⟨(some 79), .mv, [.t 19], none⟩,
   ⟨(some 80), .mv, [.t 11], none⟩,
   ⟨(some 81), (.len 0), [.t 80], none⟩,
   ⟨(some 82), (.binI .lss), [.t 79, .t 81], none⟩] [5, 6, 8, 10, 11, 12, 14, 19, 82])
 (.cond (.t 82)
  .skip
  (.exit 6)))
 (.seq (.block 7
  (.reg [⟨(some 85), .mv, [.t 11], none⟩,
    ⟨(some 86), .mv, [.t 19], none⟩,
    ⟨(some 87), (.ixS 1 false), [.t 85, .t 86], none⟩,
    ⟨none, (.st 1), [.t 87, .c (.i .i64 (-1))], none⟩] [5, 6, 8, 10, 11, 12, 14, 19]))
 (.reg [⟨(some 83), .mv, [.t 19], none⟩,
   ⟨(some 84), (.binI .add), [.t 83, .c (.i .i64 1)], none⟩,
   ⟨(some 19), .mv, [.t 84], none⟩] [5, 6, 8, 10, 11, 12, 14, 19])))

def l7_7 : DC :=
 (.loop [5, 6, 8, 10, 11, 12, 14, 19] b7_6)

def b7_8 : DC :=
 (.seq (.seq (.reg [⟨(some 88), .mv, [.t 20], none⟩,
   ⟨(some 89), .mv, [.t 12], none⟩,
   ⟨(some 90), (.len 0), [.t 89], none⟩,
   ⟨(some 91), (.binI .lss), [.t 88, .t 90], none⟩] [5, 6, 8, 10, 12, 14, 20, 91])
 (.cond (.t 91)
  .skip
  (.exit 8)))
 (.seq (.block 9
  (.reg [⟨(some 94), .mv, [.t 12], none⟩,
    ⟨(some 95), .mv, [.t 20], none⟩,
    ⟨(some 96), (.ixS 1 false), [.t 94, .t 95], none⟩,
    ⟨none, (.st 1), [.t 96, .c (.i .i64 (-1))], none⟩] [5, 6, 8, 10, 12, 14, 20]))
 (.reg [⟨(some 92), .mv, [.t 20], none⟩,
   ⟨(some 93), (.binI .add), [.t 92, .c (.i .i64 1)], none⟩,
   ⟨(some 20), .mv, [.t 93], none⟩] [5, 6, 8, 10, 12, 14, 20])))

def l7_9 : DC :=
 (.loop [5, 6, 8, 10, 12, 14, 20] b7_8)

def b7_10 : DC :=
 (.seq (.seq (.reg [⟨(some 146), .mv, [.t 25], none⟩,
   ⟨(some 147), .mv, [.t 5], none⟩,
   ⟨(some 148), (.len 0), [.t 147], none⟩,
   ⟨(some 149), (.binI .lss), [.t 146, .t 148], none⟩] [5, 6, 25, 149])
 (.cond (.t 149)
  .skip
  (.exit 10)))
 (.seq (.block 11
  (.seq (.reg [⟨(some 152), .mv, [.t 6], none⟩,
    ⟨(some 153), .mv, [.t 25], none⟩,
    ⟨(some 154), (.ixS 2 true), [.t 152, .t 153], none⟩,
    ⟨(some 155), (.fadr 0 1 false), [.t 154], none⟩,
    ⟨(some 156), (.ld 1 false), [.t 155], none⟩,
    ⟨(some 157), .mv, [.t 5], none⟩,
    ⟨(some 158), .mv, [.t 25], none⟩,
    ⟨(some 159), (.ixS 2 true), [.t 157, .t 158], none⟩,
    ⟨(some 160), (.fadr 0 1 false), [.t 159], none⟩,
    ⟨(some 161), (.ld 1 false), [.t 160], none⟩,
    ⟨(some 162), (.call (.pu [])), [.c (.fn 22 [] []), .t 156, .t 161], none⟩,
    ⟨(some 163), .notB, [.t 162], none⟩,
    ⟨(some 164), .mv, [.t 163], none⟩,
    ⟨(some 165), .mv, [.t 6], (some (164, false))⟩,
    ⟨(some 166), .mv, [.t 25], (some (164, false))⟩,
    ⟨(some 167), (.ixS 2 true), [.t 165, .t 166], (some (164, false))⟩,
    ⟨(some 168), (.fadr 1 1 false), [.t 167], (some (164, false))⟩,
    ⟨(some 169), (.ld 1 false), [.t 168], (some (164, false))⟩,
    ⟨(some 170), .mv, [.t 5], (some (164, false))⟩,
    ⟨(some 171), .mv, [.t 25], (some (164, false))⟩,
    ⟨(some 172), (.ixS 2 true), [.t 170, .t 171], (some (164, false))⟩,
    ⟨(some 173), (.fadr 1 1 false), [.t 172], (some (164, false))⟩,
    ⟨(some 174), (.ld 1 false), [.t 173], (some (164, false))⟩,
    ⟨(some 175), (.call (.pu [])), [.c (.fn 22 [] []), .t 169, .t 174], (some (164, false))⟩,
    ⟨(some 176), .notB, [.t 175], (some (164, false))⟩,
    ⟨(some 177), .pick, [.t 164, .c (.b true), .t 176], none⟩] [5, 6, 25, 177])
  (.cond (.t 177)
   (.seq (.reg [⟨(some 4), .mv, [.c (.b false)], none⟩] [4])
   .ret)
   .skip)))
 (.reg [⟨(some 150), .mv, [.t 25], none⟩,
   ⟨(some 151), (.binI .add), [.t 150, .c (.i .i64 1)], none⟩,
   ⟨(some 25), .mv, [.t 151], none⟩] [5, 6, 25])))

def l7_11 : DC :=
 (.loop [5, 6, 25] b7_10)

def c7 : DC :=
 (.seq (.reg [⟨(some 4), .mv, [.c (.b false)], none⟩] [0, 1])
 (.seq (.reg [⟨(some 26), .mv, [.t 0], none⟩,
   ⟨(some 27), .mv, [.t 1], none⟩,
   ⟨(some 28), (.call (.pu [])), [.c (.fn 17 [] []), .t 26, .t 27, .c (.i .i64 5)], none⟩,
   ⟨(some 5), .mv, [.t 28], none⟩] [5])
 (.seq (.reg [⟨(some 29), .mv, [.t 5], none⟩,
   ⟨(some 30), (.call (.pu [])), [.c (.fn 18 [] []), .t 29], none⟩,
   ⟨(some 6), .mv, [.t 30], none⟩] [5, 6])
 (.seq (.reg [⟨(some 32), .mv, [.t 6], none⟩,
   ⟨(some 33), (.call .sh), [.c (.fn 34 [] []), .t 32], none⟩,
   ⟨(some 31), .mv, [.t 33], none⟩,
   ⟨(some 34), (.ext 0), [.t 31], none⟩,
   ⟨(some 35), (.ext 1), [.t 31], none⟩,
   ⟨(some 7), .mv, [.t 34], none⟩,
   ⟨(some 8), .mv, [.t 35], none⟩] [5, 6, 7, 8])
 (.seq (.reg [⟨(some 37), .mv, [.t 6], none⟩,
   ⟨(some 38), (.call .sh), [.c (.fn 20 [] []), .t 37], none⟩,
   ⟨(some 36), .mv, [.t 38], none⟩,
   ⟨(some 39), (.ext 0), [.t 36], none⟩,
   ⟨(some 40), (.ext 1), [.t 36], none⟩,
   ⟨(some 9), .mv, [.t 39], none⟩,
   ⟨(some 10), .mv, [.t 40], none⟩] [5, 6, 7, 8, 9, 10])
 (.seq (.reg [⟨(some 42), .mv, [.t 6], none⟩,
   ⟨(some 43), (.call .sh), [.c (.fn 35 [] []), .t 42], none⟩,
   ⟨(some 41), .mv, [.t 43], none⟩,
   ⟨(some 44), (.ext 0), [.t 41], none⟩,
   ⟨(some 45), (.ext 1), [.t 41], none⟩,
   ⟨(some 46), (.ext 2), [.t 41], none⟩,
   ⟨(some 47), (.ext 3), [.t 41], none⟩,
   ⟨(some 11), .mv, [.t 44], none⟩,
   ⟨(some 12), .mv, [.t 45], none⟩,
   ⟨(some 13), .mv, [.t 46], none⟩,
   ⟨(some 14), .mv, [.t 47], none⟩] [5, 6, 7, 8, 9, 10, 11, 12, 14])
 (.seq (.seq (.reg [⟨(some 15), .mv, [.c (.i .i64 0)], none⟩] [5, 6, 7, 8, 9, 10, 11, 12, 14, 15])
 (.block 0
  l7_3))
 (.seq (.seq (.reg [⟨(some 18), .mv, [.c (.i .i64 0)], none⟩] [5, 6, 8, 9, 10, 11, 12, 14, 18])
 (.block 4
  l7_5))
 (.seq (.seq (.reg [⟨(some 19), .mv, [.c (.i .i64 0)], none⟩] [5, 6, 8, 10, 11, 12, 14, 19])
 (.block 6
  l7_7))
 (.seq (.seq (.reg [⟨(some 20), .mv, [.c (.i .i64 0)], none⟩] [5, 6, 8, 10, 12, 14, 20])
 (.block 8
  l7_9))
 (.seq (.reg [⟨(some 98), .mv, [.t 6], none⟩,
   ⟨(some 99), (.call .sh), [.c (.fn 34 [] []), .t 98], none⟩,
   ⟨(some 97), .mv, [.t 99], none⟩,
   ⟨(some 100), (.ext 0), [.t 97], none⟩,
   ⟨(some 101), (.ext 1), [.t 97], none⟩,
   ⟨(some 21), .mv, [.t 100], none⟩,
   ⟨(some 22), .mv, [.t 101], none⟩] [5, 6, 8, 10, 14, 21, 22])
 (.seq (.reg [⟨(some 103), .mv, [.t 6], none⟩,
   ⟨(some 104), (.call .sh), [.c (.fn 20 [] []), .t 103], none⟩,
   ⟨(some 102), .mv, [.t 104], none⟩,
   ⟨(some 105), (.ext 0), [.t 102], none⟩,
   ⟨(some 106), (.ext 1), [.t 102], none⟩,
   ⟨(some 23), .mv, [.t 105], none⟩,
   ⟨(some 24), .mv, [.t 106], none⟩] [5, 6, 8, 10, 14, 21, 22, 23, 24])
 (.seq (.seq (.reg [⟨(some 107), .mv, [.t 8], none⟩,
   ⟨(some 108), (.binI .neq), [.t 107, .c (.i .i64 0)], none⟩,
   ⟨(some 109), .mv, [.t 108], none⟩,
   ⟨(some 110), .mv, [.t 10], (some (109, false))⟩,
   ⟨(some 111), (.binI .neq), [.t 110, .c (.i .i64 0)], (some (109, false))⟩,
   ⟨(some 112), .pick, [.t 109, .c (.b true), .t 111], none⟩,
   ⟨(some 113), .mv, [.t 112], none⟩,
   ⟨(some 114), .mv, [.t 14], (some (113, false))⟩,
   ⟨(some 115), (.binI .neq), [.t 114, .c (.i .i64 0)], (some (113, false))⟩,
   ⟨(some 116), .pick, [.t 113, .c (.b true), .t 115], none⟩,
   ⟨(some 117), .mv, [.t 116], none⟩,
   ⟨(some 118), .mv, [.t 22], (some (117, false))⟩,
   ⟨(some 119), (.binI .neq), [.t 118, .c (.i .i64 0)], (some (117, false))⟩,
   ⟨(some 120), .pick, [.t 117, .c (.b true), .t 119], none⟩,
   ⟨(some 121), .mv, [.t 120], none⟩,
   ⟨(some 122), .mv, [.t 24], (some (121, false))⟩,
   ⟨(some 123), (.binI .neq), [.t 122, .c (.i .i64 0)], (some (121, false))⟩,
   ⟨(some 124), .pick, [.t 121, .c (.b true), .t 123], none⟩,
   ⟨(some 125), .mv, [.t 124], none⟩,
   ⟨(some 126), .mv, [.t 21], (some (125, false))⟩,
   ⟨(some 127), .mv, [.t 5], (some (125, false))⟩,
   ⟨(some 128), (.call (.pu [])), [.c (.fn 37 [] []), .t 127], (some (125, false))⟩,
   ⟨(some 129), (.call (.pu [])), [.c (.fn 36 [] []), .t 126, .t 128], (some (125, false))⟩,
   ⟨(some 130), .notB, [.t 129], (some (125, false))⟩,
   ⟨(some 131), .pick, [.t 125, .c (.b true), .t 130], none⟩,
   ⟨(some 132), .mv, [.t 131], none⟩,
   ⟨(some 133), .mv, [.t 23], (some (132, false))⟩,
   ⟨(some 134), .mv, [.t 5], (some (132, false))⟩,
   ⟨(some 135), (.call (.pu [])), [.c (.fn 23 [] []), .t 134], (some (132, false))⟩,
   ⟨(some 136), (.call (.pu [])), [.c (.fn 22 [] []), .t 133, .t 135], (some (132, false))⟩,
   ⟨(some 137), .notB, [.t 136], (some (132, false))⟩,
   ⟨(some 138), .pick, [.t 132, .c (.b true), .t 137], none⟩,
   ⟨(some 139), .mv, [.t 138], none⟩,
   ⟨(some 140), .mv, [.t 6], (some (139, false))⟩,
   ⟨(some 141), (.len 0), [.t 140], (some (139, false))⟩,
   ⟨(some 142), .mv, [.t 5], (some (139, false))⟩,
   ⟨(some 143), (.len 0), [.t 142], (some (139, false))⟩,
   ⟨(some 144), (.binI .neq), [.t 141, .t 143], (some (139, false))⟩,
   ⟨(some 145), .pick, [.t 139, .c (.b true), .t 144], none⟩] [5, 6, 145])
 (.cond (.t 145)
  (.seq (.reg [⟨(some 4), .mv, [.c (.b false)], none⟩] [4])
  .ret)
  .skip))
 (.seq (.seq (.reg [⟨(some 25), .mv, [.c (.i .i64 0)], none⟩] [5, 6, 25])
 (.block 10
  l7_11))
 (.seq (.reg [⟨(some 178), (.call (.pu [])), [.c (.fn 24 [] [])], none⟩,
   ⟨(some 4), .mv, [.t 178], none⟩] [4])
 .ret)))))))))))))))

def d7 : DFun := ⟨2, 179, c7, [.t 4]⟩

theorem ok7 : Fok Tryd.prog 7 d7 := ⟨Tryd.f7, Tryd.func7, by kernel_rfl, by kernel_rfl⟩

-- bibelot/bibelotlaw09.PriceTurned
def b9_0 : DC :=
 (.seq (.seq (.reg [⟨(some 25), .mv, [.t 11], none⟩,
   ⟨(some 26), (.binI .lss), [.t 25, .c (.i .i64 2)], none⟩] [7, 8, 9, 10, 11, 26])
 (.cond (.t 26)
  .skip
  (.exit 0)))
 (.seq (.block 1
  (.seq (.reg [⟨(some 30), .mv, [.t 8], none⟩,
    ⟨(some 31), .mv, [.t 9], none⟩,
    ⟨(some 32), .mv, [.t 10], none⟩,
    ⟨(some 33), (.call (.pu [])), [.c (.fn 39 [] []), .t 30, .t 31, .t 32], none⟩,
    ⟨(some 29), .mv, [.t 33], none⟩,
    ⟨(some 34), (.ext 0), [.t 29], none⟩,
    ⟨(some 35), (.ext 1), [.t 29], none⟩,
    ⟨(some 12), (.alloc [(.i .i64 0), (.i .i64 0), (.i .i64 0), (.i .i64 0)] true), [], none⟩,
    ⟨none, (.st 4), [.t 12, .t 34], none⟩,
    ⟨(some 13), .mv, [.t 35], none⟩] [7, 8, 9, 10, 11, 12, 13])
  (.seq (.reg [⟨(some 37), .mv, [.t 8], none⟩,
    ⟨(some 38), .mv, [.t 9], none⟩,
    ⟨(some 39), .mv, [.t 10], none⟩,
    ⟨(some 40), (.call (.pu [])), [.c (.fn 40 [] []), .t 37, .t 38, .t 39], none⟩,
    ⟨(some 36), .mv, [.t 40], none⟩,
    ⟨(some 41), (.ext 0), [.t 36], none⟩,
    ⟨(some 42), (.ext 1), [.t 36], none⟩,
    ⟨(some 14), .mv, [.t 41], none⟩,
    ⟨(some 15), .mv, [.t 42], none⟩] [7, 8, 9, 10, 11, 12, 13, 14, 15])
  (.seq (.seq (.reg [⟨(some 43), .mv, [.t 9], none⟩,
    ⟨(some 44), (.binI .lss), [.t 43, .c (.i .i64 0)], none⟩,
    ⟨(some 45), .mv, [.t 44], none⟩,
    ⟨(some 46), .mv, [.t 9], (some (45, false))⟩,
    ⟨(some 47), .mv, [.t 7], (some (45, false))⟩,
    ⟨(some 48), (.len 0), [.t 47], (some (45, false))⟩,
    ⟨(some 49), (.binI .geq), [.t 46, .t 48], (some (45, false))⟩,
    ⟨(some 50), .pick, [.t 45, .c (.b true), .t 49], none⟩,
    ⟨(some 51), .mv, [.t 50], none⟩,
    ⟨(some 52), .mv, [.t 10], (some (51, false))⟩,
    ⟨(some 53), (.binI .lss), [.t 52, .c (.i .i64 0)], (some (51, false))⟩,
    ⟨(some 54), .pick, [.t 51, .c (.b true), .t 53], none⟩,
    ⟨(some 55), .mv, [.t 54], none⟩,
    ⟨(some 56), .mv, [.t 10], (some (55, false))⟩,
    ⟨(some 57), .mv, [.t 7], (some (55, false))⟩,
    ⟨(some 58), (.len 0), [.t 57], (some (55, false))⟩,
    ⟨(some 59), (.binI .geq), [.t 56, .t 58], (some (55, false))⟩,
    ⟨(some 60), .pick, [.t 55, .c (.b true), .t 59], none⟩] [7, 8, 9, 10, 11, 12, 13, 14, 15, 60])
  (.cond (.t 60)
   (.seq (.reg [⟨(some 61), .mv, [.t 13], none⟩,
     ⟨(some 62), (.binI .neq), [.t 61, .c (.i .i64 1)], none⟩,
     ⟨(some 63), .mv, [.t 62], none⟩,
     ⟨(some 64), .mv, [.t 15], (some (63, false))⟩,
     ⟨(some 65), (.binI .neq), [.t 64, .c (.i .i64 1)], (some (63, false))⟩,
     ⟨(some 66), .pick, [.t 63, .c (.b true), .t 65], none⟩,
     ⟨(some 67), .mv, [.t 66], none⟩,
     ⟨(some 68), (.ld 4 true), [.t 12], (some (67, false))⟩,
     ⟨(some 69), (.build [(.i .i64 0), (.i .i64 0), (.i .i64 0), (.i .i64 0)] []), [], (some (67, false))⟩,
     ⟨(some 70), (.eqA true [true, true, true, true]), [.t 68, .t 69], (some (67, false))⟩,
     ⟨(some 71), .pick, [.t 67, .c (.b true), .t 70], none⟩,
     ⟨(some 72), .mv, [.t 71], none⟩,
     ⟨(some 73), .mv, [.t 14], (some (72, false))⟩,
     ⟨(some 74), (.binI .neq), [.t 73, .c (.i .i64 0)], (some (72, false))⟩,
     ⟨(some 75), .pick, [.t 72, .c (.b true), .t 74], none⟩] [7, 8, 9, 10, 11, 75])
   (.cond (.t 75)
    (.seq (.reg [⟨(some 6), .mv, [.c (.b false)], none⟩] [6])
    .ret)
    .skip))
   (.seq (.reg [⟨(some 76), .mv, [.t 13], none⟩,
     ⟨(some 77), (.binI .neq), [.t 76, .c (.i .i64 0)], none⟩,
     ⟨(some 78), .mv, [.t 77], none⟩,
     ⟨(some 79), .mv, [.t 15], (some (78, false))⟩,
     ⟨(some 80), (.binI .neq), [.t 79, .c (.i .i64 0)], (some (78, false))⟩,
     ⟨(some 81), .pick, [.t 78, .c (.b true), .t 80], none⟩,
     ⟨(some 82), .mv, [.t 81], none⟩,
     ⟨(some 83), (.ld 4 true), [.t 12], (some (82, false))⟩,
     ⟨(some 84), .mv, [.t 7], (some (82, false))⟩,
     ⟨(some 85), .mv, [.t 9], (some (82, false))⟩,
     ⟨(some 86), .mv, [.t 10], (some (82, false))⟩,
     ⟨(some 87), (.call (.pu [])), [.c (.fn 41 [] []), .t 84, .t 85, .t 86], (some (82, false))⟩,
     ⟨(some 88), (.eqA true [true, true, true, true]), [.t 83, .t 87], (some (82, false))⟩,
     ⟨(some 89), .pick, [.t 82, .c (.b true), .t 88], none⟩,
     ⟨(some 90), .mv, [.t 89], none⟩,
     ⟨(some 91), .mv, [.t 14], (some (90, false))⟩,
     ⟨(some 92), .mv, [.t 7], (some (90, false))⟩,
     ⟨(some 93), .mv, [.t 9], (some (90, false))⟩,
     ⟨(some 94), .mv, [.t 10], (some (90, false))⟩,
     ⟨(some 95), (.call (.pu [])), [.c (.fn 42 [] []), .t 92, .t 93, .t 94], (some (90, false))⟩,
     ⟨(some 96), (.binI .neq), [.t 91, .t 95], (some (90, false))⟩,
     ⟨(some 97), .pick, [.t 90, .c (.b true), .t 96], none⟩] [7, 8, 9, 10, 11, 97])
   (.cond (.t 97)
    (.seq (.reg [⟨(some 6), .mv, [.c (.b false)], none⟩] [6])
    .ret)
    .skip))))
  (.seq (.reg [⟨(some 98), .mv, [.t 9], none⟩,
    ⟨(some 99), (.conv .u64), [.t 98], none⟩,
    ⟨(some 100), .mv, [.t 7], none⟩,
    ⟨(some 101), (.len 0), [.t 100], none⟩,
    ⟨(some 102), (.conv .u64), [.t 101], none⟩,
    ⟨(some 103), (.binI .rem), [.t 99, .t 102], none⟩,
    ⟨(some 104), (.conv .i64), [.t 103], none⟩,
    ⟨(some 9), .mv, [.t 104], none⟩] [7, 8, 9, 10, 11])
  (.reg [⟨(some 105), .mv, [.t 10], none⟩,
    ⟨(some 106), (.conv .u64), [.t 105], none⟩,
    ⟨(some 107), .mv, [.t 7], none⟩,
    ⟨(some 108), (.len 0), [.t 107], none⟩,
    ⟨(some 109), (.conv .u64), [.t 108], none⟩,
    ⟨(some 110), (.binI .rem), [.t 106, .t 109], none⟩,
    ⟨(some 111), (.conv .i64), [.t 110], none⟩,
    ⟨(some 10), .mv, [.t 111], none⟩] [7, 8, 9, 10, 11]))))))
 (.reg [⟨(some 27), .mv, [.t 11], none⟩,
   ⟨(some 28), (.binI .add), [.t 27, .c (.i .i64 1)], none⟩,
   ⟨(some 11), .mv, [.t 28], none⟩] [7, 8, 9, 10, 11])))

def l9_1 : DC :=
 (.loop [7, 8, 9, 10, 11] b9_0)

def c9 : DC :=
 (.seq (.reg [⟨(some 5), (.box true), [.t 2], none⟩,
   ⟨(some 6), .mv, [.c (.b false)], none⟩] [0, 1, 5])
 (.seq (.reg [⟨(some 16), .mv, [.t 0], none⟩,
   ⟨(some 17), .mv, [.t 1], none⟩,
   ⟨(some 18), (.call (.pu [])), [.c (.fn 17 [] []), .t 16, .t 17, .c (.i .i64 5)], none⟩,
   ⟨(some 7), .mv, [.t 18], none⟩] [5, 7])
 (.seq (.reg [⟨(some 19), .mv, [.t 7], none⟩,
   ⟨(some 20), (.call (.pu [])), [.c (.fn 18 [] []), .t 19], none⟩,
   ⟨(some 8), .mv, [.t 20], none⟩] [5, 7, 8])
 (.seq (.reg [⟨(some 21), (.ixA 2 1 false), [.t 5, .c (.i .i64 0)], none⟩,
   ⟨(some 22), (.ld 1 false), [.t 21], none⟩,
   ⟨(some 23), (.ixA 2 1 false), [.t 5, .c (.i .i64 1)], none⟩,
   ⟨(some 24), (.ld 1 false), [.t 23], none⟩,
   ⟨(some 9), .mv, [.t 22], none⟩,
   ⟨(some 10), .mv, [.t 24], none⟩] [7, 8, 9, 10])
 (.seq (.seq (.reg [⟨(some 11), .mv, [.c (.i .i64 0)], none⟩] [7, 8, 9, 10, 11])
 (.block 0
  l9_1))
 (.seq (.reg [⟨(some 112), (.call (.pu [])), [.c (.fn 24 [] [])], none⟩,
   ⟨(some 6), .mv, [.t 112], none⟩] [6])
 .ret))))))

def d9 : DFun := ⟨3, 113, c9, [.t 6]⟩

def q17_1 : DC :=
 (.seq (.reg [⟨(some 39), .mv, [.t 8], none⟩,
    ⟨(some 40), .mv, [.t 0], none⟩,
    ⟨(some 41), (.len 0), [.t 40], none⟩,
    ⟨(some 42), (.binI .lss), [.t 39, .t 41], none⟩,
    ⟨(some 43), .mv, [.t 42], none⟩,
    ⟨(some 44), .mv, [.t 11], (some (43, true))⟩,
    ⟨(some 45), .mv, [.t 0], (some (43, true))⟩,
    ⟨(some 46), .mv, [.t 8], (some (43, true))⟩,
    ⟨(some 47), (.ixS 2 true), [.t 45, .t 46], (some (43, true))⟩,
    ⟨(some 48), (.fadr 0 1 false), [.t 47], (some (43, true))⟩,
    ⟨(some 49), (.ld 1 false), [.t 48], (some (43, true))⟩,
    ⟨(some 50), (.len 0), [.t 49], (some (43, true))⟩,
    ⟨(some 51), (.binI .lss), [.t 44, .t 50], (some (43, true))⟩,
    ⟨(some 52), .pick, [.t 43, .t 51, .c (.b false)], none⟩] [0, 1, 2, 7, 8, 9, 10, 11, 12, 13, 52])
  (.cond (.t 52)
   (.reg [⟨(some 53), .mv, [.t 0], none⟩,
     ⟨(some 54), .mv, [.t 8], none⟩,
     ⟨(some 55), (.ixS 2 true), [.t 53, .t 54], none⟩,
     ⟨(some 56), (.fadr 0 1 false), [.t 55], none⟩,
     ⟨(some 57), (.ld 1 false), [.t 56], none⟩,
     ⟨(some 58), .mv, [.t 11], none⟩,
     ⟨(some 59), (.ixS 1 false), [.t 57, .t 58], none⟩,
     ⟨(some 60), (.ld 1 false), [.t 59], none⟩,
     ⟨(some 61), (.conv .u64), [.t 60], none⟩,
     ⟨(some 62), (.binI .rem), [.t 61, .c (.i .u64 20)], none⟩,
     ⟨(some 63), (.conv .i64), [.t 62], none⟩,
     ⟨(some 64), (.binI .add), [.c (.i .i64 1), .t 63], none⟩,
     ⟨(some 12), .mv, [.t 64], none⟩] [0, 1, 2, 7, 8, 9, 10, 11, 12, 13])
   .skip))
def q17_2 : DC :=
 (.seq (.reg [⟨(some 65), .mv, [.t 8], none⟩,
    ⟨(some 66), .mv, [.t 0], none⟩,
    ⟨(some 67), (.len 0), [.t 66], none⟩,
    ⟨(some 68), (.binI .lss), [.t 65, .t 67], none⟩,
    ⟨(some 69), .mv, [.t 68], none⟩,
    ⟨(some 70), .mv, [.t 11], (some (69, true))⟩,
    ⟨(some 71), .mv, [.t 0], (some (69, true))⟩,
    ⟨(some 72), .mv, [.t 8], (some (69, true))⟩,
    ⟨(some 73), (.ixS 2 true), [.t 71, .t 72], (some (69, true))⟩,
    ⟨(some 74), (.fadr 1 1 false), [.t 73], (some (69, true))⟩,
    ⟨(some 75), (.ld 1 false), [.t 74], (some (69, true))⟩,
    ⟨(some 76), (.len 0), [.t 75], (some (69, true))⟩,
    ⟨(some 77), (.binI .lss), [.t 70, .t 76], (some (69, true))⟩,
    ⟨(some 78), .pick, [.t 69, .t 77, .c (.b false)], none⟩] [0, 1, 2, 7, 8, 9, 10, 11, 12, 13, 78])
  (.cond (.t 78)
   (.reg [⟨(some 79), .mv, [.t 0], none⟩,
     ⟨(some 80), .mv, [.t 8], none⟩,
     ⟨(some 81), (.ixS 2 true), [.t 79, .t 80], none⟩,
     ⟨(some 82), (.fadr 1 1 false), [.t 81], none⟩,
     ⟨(some 83), (.ld 1 false), [.t 82], none⟩,
     ⟨(some 84), .mv, [.t 11], none⟩,
     ⟨(some 85), (.ixS 1 false), [.t 83, .t 84], none⟩,
     ⟨(some 86), (.ld 1 false), [.t 85], none⟩,
     ⟨(some 87), (.conv .u64), [.t 86], none⟩,
     ⟨(some 88), (.binI .rem), [.t 87, .c (.i .u64 21)], none⟩,
     ⟨(some 89), (.conv .i64), [.t 88], none⟩,
     ⟨(some 13), .mv, [.t 89], none⟩] [0, 1, 2, 7, 8, 9, 10, 11, 12, 13])
   .skip))
def q17_3 : DC :=
 (.seq (.reg [⟨(some 93), .mv, [.t 11], none⟩,
    ⟨(some 94), .mv, [.t 1], none⟩,
    ⟨(some 95), (.binI .sub), [.t 94, .c (.i .i64 1)], none⟩,
    ⟨(some 96), (.binI .eql), [.t 93, .t 95], none⟩,
    ⟨(some 97), .mv, [.t 96], none⟩,
    ⟨(some 98), .mv, [.t 10], (some (97, true))⟩,
    ⟨(some 99), (.binI .eql), [.t 98, .c (.i .i64 0)], (some (97, true))⟩,
    ⟨(some 100), .pick, [.t 97, .t 99, .c (.b false)], none⟩] [0, 1, 2, 7, 8, 9, 10, 11, 12, 13, 100])
  (.cond (.t 100)
   (.reg [⟨(some 13), .mv, [.c (.i .i64 1)], none⟩] [0, 1, 2, 7, 8, 9, 10, 11, 12, 13])
   .skip))
def b17_0 : DC :=
 (.seq (.seq (.reg [⟨(some 34), .mv, [.t 11], none⟩,
   ⟨(some 35), .mv, [.t 1], none⟩,
   ⟨(some 36), (.binI .lss), [.t 34, .t 35], none⟩] [0, 1, 2, 7, 8, 9, 10, 11, 36])
 (.cond (.t 36)
  .skip
  (.exit 2)))
 (.seq (.block 3
  (.seq (.reg [⟨(some 12), .mv, [.c (.i .i64 1)], none⟩,
    ⟨(some 13), .mv, [.c (.i .i64 0)], none⟩] [0, 1, 2, 7, 8, 9, 10, 11, 12, 13])
  (.seq q17_1
  (.seq q17_2
  (.seq (.reg [⟨(some 90), .mv, [.t 10], none⟩,
    ⟨(some 91), .mv, [.t 13], none⟩,
    ⟨(some 92), (.binI .add), [.t 90, .t 91], none⟩,
    ⟨(some 10), .mv, [.t 92], none⟩] [0, 1, 2, 7, 8, 9, 10, 11, 12, 13])
  (.seq q17_3
  (.seq (.reg [⟨(some 101), (.fadr 0 1 false), [.t 9], none⟩,
    ⟨(some 102), (.ld 1 false), [.t 101], none⟩,
    ⟨(some 103), (.fadr 1 1 false), [.t 9], none⟩,
    ⟨(some 104), (.ld 1 false), [.t 103], none⟩,
    ⟨(some 14), .mv, [.t 102], none⟩,
    ⟨(some 15), .mv, [.t 104], none⟩] [0, 1, 2, 7, 8, 9, 10, 11, 12, 13, 14, 15])
  (.seq (.reg [⟨(some 105), .mv, [.t 14], none⟩,
    ⟨(some 106), .mv, [.t 12], none⟩,
    ⟨(some 107), (.bsl false [(.i .i64 0)] false 1 [0]), [.t 106], none⟩,
    ⟨(some 108), (.app 1 false 8), [.t 105, .t 107], none⟩,
    ⟨(some 109), (.fadr 0 1 false), [.t 9], none⟩,
    ⟨none, (.st 1), [.t 109, .t 108], none⟩] [0, 1, 2, 7, 8, 9, 10, 11, 13, 15])
  (.reg [⟨(some 110), .mv, [.t 15], none⟩,
    ⟨(some 111), .mv, [.t 13], none⟩,
    ⟨(some 112), (.bsl false [(.i .i64 0)] false 1 [0]), [.t 111], none⟩,
    ⟨(some 113), (.app 1 false 8), [.t 110, .t 112], none⟩,
    ⟨(some 114), (.fadr 1 1 false), [.t 9], none⟩,
    ⟨none, (.st 1), [.t 114, .t 113], none⟩] [0, 1, 2, 7, 8, 9, 10, 11])))))))))
 (.reg [⟨(some 37), .mv, [.t 11], none⟩,
   ⟨(some 38), (.binI .add), [.t 37, .c (.i .i64 1)], none⟩,
   ⟨(some 11), .mv, [.t 38], none⟩] [0, 1, 2, 7, 8, 9, 10, 11])))

def l17_1 : DC :=
 (.loop [0, 1, 2, 7, 8, 9, 10, 11] b17_0)

def b17_2 : DC :=
 (.seq (.seq (.reg [⟨(some 21), .mv, [.t 8], none⟩,
   ⟨(some 22), .mv, [.t 0], none⟩,
   ⟨(some 23), (.len 0), [.t 22], none⟩,
   ⟨(some 24), .mxI, [.c (.i .i64 1), .t 23], none⟩,
   ⟨(some 25), (.binI .lss), [.t 21, .t 24], none⟩,
   ⟨(some 26), .mv, [.t 25], none⟩,
   ⟨(some 27), .mv, [.t 8], (some (26, true))⟩,
   ⟨(some 28), .mv, [.t 2], (some (26, true))⟩,
   ⟨(some 29), (.binI .lss), [.t 27, .t 28], (some (26, true))⟩,
   ⟨(some 30), .pick, [.t 26, .t 29, .c (.b false)], none⟩] [0, 1, 2, 7, 8, 30])
 (.cond (.t 30)
  .skip
  (.exit 0)))
 (.seq (.block 1
  (.seq (.reg [⟨(some 33), (.build [.nilsl, .nilsl] []), [], none⟩,
    ⟨(some 9), (.alloc [.nilsl, .nilsl] true), [], none⟩,
    ⟨none, (.st 2), [.t 9, .t 33], none⟩] [0, 1, 2, 7, 8, 9])
  (.seq (.reg [⟨(some 10), .mv, [.c (.i .i64 0)], none⟩] [0, 1, 2, 7, 8, 9, 10])
  (.seq (.seq (.reg [⟨(some 11), .mv, [.c (.i .i64 0)], none⟩] [0, 1, 2, 7, 8, 9, 10, 11])
  (.block 2
   l17_1))
  (.reg [⟨(some 115), .mv, [.t 7], none⟩,
    ⟨(some 116), (.ld 2 true), [.t 9], none⟩,
    ⟨(some 117), (.bsl false [.nilsl, .nilsl] true 1 [0]), [.t 116], none⟩,
    ⟨(some 118), (.app 2 true 48), [.t 115, .t 117], none⟩,
    ⟨(some 7), .mv, [.t 118], none⟩] [0, 1, 2, 7, 8])))))
 (.reg [⟨(some 31), .mv, [.t 8], none⟩,
   ⟨(some 32), (.binI .add), [.t 31, .c (.i .i64 1)], none⟩,
   ⟨(some 8), .mv, [.t 32], none⟩] [0, 1, 2, 7, 8])))

def l17_3 : DC :=
 (.loop [0, 1, 2, 7, 8] b17_2)

def c17 : DC :=
 (.seq (.reg [⟨(some 6), .mv, [.c .nilsl], none⟩] [0, 1, 2])
 (.seq (.reg [⟨(some 16), .mv, [.t 1], none⟩,
   ⟨(some 17), (.conv .u64), [.t 16], none⟩,
   ⟨(some 18), (.binI .rem), [.t 17, .c (.i .u64 3)], none⟩,
   ⟨(some 19), (.conv .i64), [.t 18], none⟩,
   ⟨(some 20), (.binI .add), [.c (.i .i64 1), .t 19], none⟩,
   ⟨(some 1), .mv, [.t 20], none⟩] [0, 1, 2])
 (.seq (.reg [⟨(some 7), .mv, [.c .nilsl], none⟩] [0, 1, 2, 7])
 (.seq (.seq (.reg [⟨(some 8), .mv, [.c (.i .i64 0)], none⟩] [0, 1, 2, 7, 8])
 (.block 0
  l17_3))
 (.seq (.reg [⟨(some 119), .mv, [.t 7], none⟩,
   ⟨(some 6), .mv, [.t 119], none⟩] [6])
 .ret)))))

def d17 : DFun := ⟨3, 120, c17, [.t 6]⟩

theorem ok17 : Fok Tryd.prog 17 d17 := ⟨Tryd.f17, Tryd.func17, by kernel_rfl, by kernel_rfl⟩

-- bibelot/bibelotlaw09.given
def b18_0 : DC :=
 (.seq (.seq (.reg [⟨(some 5), .mv, [.t 4], none⟩,
   ⟨(some 6), .mv, [.t 0], none⟩,
   ⟨(some 7), (.len 0), [.t 6], none⟩,
   ⟨(some 8), (.binI .lss), [.t 5, .t 7], none⟩] [0, 3, 4, 8])
 (.cond (.t 8)
  .skip
  (.exit 0)))
 (.seq (.block 1
  (.reg [⟨(some 11), .mv, [.t 3], none⟩,
    ⟨(some 12), .mv, [.t 0], none⟩,
    ⟨(some 13), .mv, [.t 4], none⟩,
    ⟨(some 14), (.ixS 2 true), [.t 12, .t 13], none⟩,
    ⟨(some 15), (.fadr 0 1 false), [.t 14], none⟩,
    ⟨(some 16), (.ld 1 false), [.t 15], none⟩,
    ⟨(some 17), (.call (.pu [])), [.c (.fn 29 [] []), .t 16, .c (.i .i64 4)], none⟩,
    ⟨(some 18), .mv, [.t 0], none⟩,
    ⟨(some 19), .mv, [.t 4], none⟩,
    ⟨(some 20), (.ixS 2 true), [.t 18, .t 19], none⟩,
    ⟨(some 21), (.fadr 1 1 false), [.t 20], none⟩,
    ⟨(some 22), (.ld 1 false), [.t 21], none⟩,
    ⟨(some 23), (.call (.pu [])), [.c (.fn 29 [] []), .t 22, .c (.i .i64 4)], none⟩,
    ⟨(some 24), (.build [.nilsl, .nilsl] [(0, 1), (1, 1)]), [.t 17, .t 23], none⟩,
    ⟨(some 25), (.bsl false [.nilsl, .nilsl] true 1 [0]), [.t 24], none⟩,
    ⟨(some 26), (.app 2 true 48), [.t 11, .t 25], none⟩,
    ⟨(some 3), .mv, [.t 26], none⟩] [0, 3, 4]))
 (.reg [⟨(some 9), .mv, [.t 4], none⟩,
   ⟨(some 10), (.binI .add), [.t 9, .c (.i .i64 1)], none⟩,
   ⟨(some 4), .mv, [.t 10], none⟩] [0, 3, 4])))

def l18_1 : DC :=
 (.loop [0, 3, 4] b18_0)

def c18 : DC :=
 (.seq (.reg [⟨(some 2), .mv, [.c .nilsl], none⟩] [0])
 (.seq (.reg [⟨(some 3), .mv, [.c .nilsl], none⟩] [0, 3])
 (.seq (.seq (.reg [⟨(some 4), .mv, [.c (.i .i64 0)], none⟩] [0, 3, 4])
 (.block 0
  l18_1))
 (.seq (.reg [⟨(some 27), .mv, [.t 3], none⟩,
   ⟨(some 2), .mv, [.t 27], none⟩] [2])
 .ret))))

def d18 : DFun := ⟨1, 28, c18, [.t 2]⟩

theorem ok18 : Fok Tryd.prog 18 d18 := ⟨Tryd.f18, Tryd.func18, by kernel_rfl, by kernel_rfl⟩

-- bibelot/price.Share
def b19_0 : DC :=
 (.seq (.reg [⟨(some 32), (.binI .lss), [.t 31, .t 30], none⟩] [5, 7, 8, 23, 24, 30, 31, 32])
 (.seq (.cond (.t 32)
  .skip
  (.exit 2))
 (.seq (.block 3
  (.seq (.reg [⟨(some 33), .mv, [.t 31], none⟩,
    ⟨(some 9), .mv, [.t 33], none⟩] [5, 7, 8, 9, 23, 24, 30, 31])
  (.seq (.reg [⟨(some 34), .mv, [.t 5], none⟩,
    ⟨(some 35), .mv, [.t 8], none⟩,
    ⟨(some 36), .mv, [.t 9], none⟩,
    ⟨(some 37), .nilck, [.t 34], none⟩,
    ⟨(some 38), (.fadr 1 25 true), [.t 37], none⟩,
    ⟨(some 39), (.ixA 5 5 true), [.t 38, .t 35], none⟩,
    ⟨(some 40), (.ixA 5 1 false), [.t 39, .t 36], none⟩,
    ⟨(some 41), (.ld 1 false), [.t 40], none⟩,
    ⟨(some 42), .mv, [.t 5], none⟩,
    ⟨(some 43), .mv, [.t 8], none⟩,
    ⟨(some 44), .mv, [.t 8], none⟩,
    ⟨(some 45), .nilck, [.t 42], none⟩,
    ⟨(some 46), (.fadr 1 25 true), [.t 45], none⟩,
    ⟨(some 47), (.ixA 5 5 true), [.t 46, .t 43], none⟩,
    ⟨(some 48), (.ixA 5 1 false), [.t 47, .t 44], none⟩,
    ⟨(some 49), (.ld 1 false), [.t 48], none⟩,
    ⟨(some 50), (.build [(.i .i64 0), (.i .i64 0)] [(0, 1), (1, 1)]), [.t 41, .t 49], none⟩,
    ⟨(some 51), (.call (.pu [])), [.c (.fn 54 [] []), .t 50], none⟩,
    ⟨(some 10), (.alloc [(.i .i64 0), (.i .i64 0)] true), [], none⟩,
    ⟨none, (.st 2), [.t 10, .t 51], none⟩] [5, 7, 8, 9, 10, 23, 24, 30, 31])
  (.seq (.reg [⟨(some 52), .mv, [.t 8], none⟩,
    ⟨(some 53), .mv, [.t 9], none⟩,
    ⟨(some 54), (.binI .neq), [.t 52, .t 53], none⟩,
    ⟨(some 55), .mv, [.t 54], none⟩,
    ⟨(some 56), (.ld 2 true), [.t 10], (some (55, true))⟩,
    ⟨(some 57), (.ld 2 true), [.t 7], (some (55, true))⟩,
    ⟨(some 58), (.call (.pu [])), [.c (.fn 55 [] []), .t 56, .t 57], (some (55, true))⟩,
    ⟨(some 59), .pick, [.t 55, .t 58, .c (.b false)], none⟩,
    ⟨(some 60), .mv, [.t 59], none⟩,
    ⟨(some 61), .mv, [.t 5], (some (60, true))⟩,
    ⟨(some 62), .mv, [.t 9], (some (60, true))⟩,
    ⟨(some 63), .mv, [.t 8], (some (60, true))⟩,
    ⟨(some 64), .mv, [.t 5], (some (60, true))⟩,
    ⟨(some 65), (.call (.pu [])), [.c (.fn 57 [] []), .t 64], (some (60, true))⟩,
    ⟨(some 66), (.ld 2 true), [.t 10], (some (60, true))⟩,
    ⟨(some 67), (.call (.pu [])), [.c (.fn 56 [] []), .t 61, .t 62, .t 63, .t 65, .t 66], (some (60, true))⟩,
    ⟨(some 68), (.eqN 0 true), [.t 67, .c .nilsl], (some (60, true))⟩,
    ⟨(some 69), .pick, [.t 60, .t 68, .c (.b false)], none⟩] [5, 7, 8, 10, 23, 24, 30, 31, 69])
  (.cond (.t 69)
   (.reg [⟨(some 70), (.ld 2 true), [.t 10], none⟩,
     ⟨none, (.st 2), [.t 7, .t 70], none⟩] [5, 7, 8, 23, 24, 30, 31])
   .skip)))))
 (.reg [⟨(some 71), (.binI .add), [.t 31, .c (.i .i64 1)], none⟩,
   ⟨(some 31), .mv, [.t 71], none⟩] [5, 7, 8, 23, 24, 30, 31]))))

def l19_1 : DC :=
 (.loop [5, 7, 8, 23, 24, 30, 31] b19_0)

def b19_2 : DC :=
 (.seq (.reg [⟨(some 25), (.binI .lss), [.t 24, .t 23], none⟩] [5, 7, 23, 24, 25])
 (.seq (.cond (.t 25)
  .skip
  (.exit 0))
 (.seq (.block 1
  (.seq (.reg [⟨(some 26), .mv, [.t 24], none⟩,
    ⟨(some 8), .mv, [.t 26], none⟩] [5, 7, 8, 23, 24])
  (.seq (.reg [⟨(some 27), .mv, [.t 5], none⟩,
    ⟨(some 28), .nilck, [.t 27], none⟩,
    ⟨(some 29), (.fadr 0 1 false), [.t 28], none⟩,
    ⟨(some 30), (.ld 1 false), [.t 29], none⟩,
    ⟨(some 31), .mv, [.c (.i .i64 0)], none⟩] [5, 7, 8, 23, 24, 30, 31])
  (.block 2
   l19_1))))
 (.reg [⟨(some 72), (.binI .add), [.t 24, .c (.i .i64 1)], none⟩,
   ⟨(some 24), .mv, [.t 72], none⟩] [5, 7, 23, 24]))))

def l19_3 : DC :=
 (.loop [5, 7, 23, 24] b19_2)

def c19 : DC :=
 (.seq (.reg [⟨(some 2), .mv, [.c (.i .i64 0)], none⟩,
   ⟨(some 3), .mv, [.c (.i .i64 0)], none⟩,
   ⟨(some 4), .mv, [.c (.i .i64 0)], none⟩] [0])
 (.seq (.reg [⟨(some 12), .mv, [.t 0], none⟩,
   ⟨(some 13), (.call .sh), [.c (.fn 53 [] []), .t 12, .c .nilsl], none⟩,
   ⟨(some 11), .mv, [.t 13], none⟩,
   ⟨(some 14), (.ext 0), [.t 11], none⟩,
   ⟨(some 15), (.ext 1), [.t 11], none⟩,
   ⟨(some 5), .mv, [.t 14], none⟩,
   ⟨(some 6), .mv, [.t 15], none⟩] [5, 6])
 (.seq (.seq (.reg [⟨(some 16), .mv, [.t 6], none⟩,
   ⟨(some 17), (.binI .neq), [.t 16, .c (.i .i64 0)], none⟩] [5, 6, 17])
 (.cond (.t 17)
  (.seq (.reg [⟨(some 18), .mv, [.t 6], none⟩,
    ⟨(some 2), .mv, [.c (.i .i64 0)], none⟩,
    ⟨(some 3), .mv, [.c (.i .i64 0)], none⟩,
    ⟨(some 4), .mv, [.t 18], none⟩] [2, 3, 4])
  .ret)
  .skip))
 (.seq (.reg [⟨(some 19), (.ld 2 true), [.g 0], none⟩,
   ⟨(some 7), (.alloc [(.i .i64 0), (.i .i64 0)] true), [], none⟩,
   ⟨none, (.st 2), [.t 7, .t 19], none⟩] [5, 7])
 (.seq (.seq (.reg [⟨(some 20), .mv, [.t 5], none⟩,
   ⟨(some 21), .nilck, [.t 20], none⟩,
   ⟨(some 22), (.fadr 0 1 false), [.t 21], none⟩,
   ⟨(some 23), (.ld 1 false), [.t 22], none⟩,
   ⟨(some 24), .mv, [.c (.i .i64 0)], none⟩] [5, 7, 23, 24])
 (.block 0
  l19_3))
 (.seq (.reg [⟨(some 73), (.fadr 0 1 false), [.t 7], none⟩,
   ⟨(some 74), (.ld 1 false), [.t 73], none⟩,
   ⟨(some 75), (.fadr 1 1 false), [.t 7], none⟩,
   ⟨(some 76), (.ld 1 false), [.t 75], none⟩,
   ⟨(some 2), .mv, [.t 74], none⟩,
   ⟨(some 3), .mv, [.t 76], none⟩,
   ⟨(some 4), .mv, [.c (.i .i64 0)], none⟩] [2, 3, 4])
 .ret))))))

def d19 : DFun := ⟨1, 77, c19, [.t 2, .t 3, .t 4]⟩

theorem ok19 : Fok Tryd.prog 19 d19 := ⟨Tryd.f19, Tryd.func19, by kernel_rfl, by kernel_rfl⟩

-- bibelot/price.Most
def a20_0 : DC :=
 (.reg [⟨(some 7), .mv, [.t 20], none⟩] [4, 6, 7])

def b20_1 : DC :=
 (.block 1
  (.seq (.reg [⟨(some 21), .mv, [.t 7], none⟩,
    ⟨(some 22), (.conv .u64), [.t 21], none⟩,
    ⟨(some 23), (.call (.pu [])), [.c (.fn 59 [] []), .t 22], none⟩,
    ⟨(some 8), .mv, [.t 23], none⟩] [4, 6, 7, 8])
  (.seq (.seq (.reg [⟨(some 24), .mv, [.t 8], none⟩,
    ⟨(some 25), (.ld 1 false), [.t 6], none⟩,
    ⟨(some 26), (.len 0), [.t 25], none⟩,
    ⟨(some 27), (.binI .lss), [.t 24, .t 26], none⟩,
    ⟨(some 28), .mv, [.t 27], none⟩,
    ⟨(some 29), (.ld 1 false), [.t 4], (some (28, false))⟩,
    ⟨(some 30), .mv, [.t 7], (some (28, false))⟩,
    ⟨(some 31), (.ld 2 true), [.g 0], (some (28, false))⟩,
    ⟨(some 32), (.call (.pu [])), [.c (.fn 60 [] []), .t 29, .t 30, .t 31], (some (28, false))⟩,
    ⟨(some 33), (.eqN 0 true), [.t 32, .c .nilsl], (some (28, false))⟩,
    ⟨(some 34), .pick, [.t 28, .c (.b true), .t 33], none⟩] [6, 7, 8, 34])
  (.cond (.t 34)
   (.exit 1)
   .skip))
  (.seq (.reg [⟨(some 35), .mv, [.t 7], none⟩,
    ⟨(some 36), (.call .sh), [.c (.fn 61 [] []), .t 35], none⟩,
    ⟨(some 9), .mv, [.t 36], none⟩] [6, 8, 9])
  (.seq (.reg [⟨(some 37), .mv, [.t 8], none⟩,
    ⟨(some 38), (.ld 1 false), [.t 6], none⟩,
    ⟨(some 39), (.len 0), [.t 38], none⟩,
    ⟨(some 40), (.binI .gtr), [.t 37, .t 39], none⟩,
    ⟨(some 41), .mv, [.t 40], none⟩,
    ⟨(some 42), .mv, [.t 9], (some (41, false))⟩,
    ⟨(some 43), (.ld 1 false), [.t 6], (some (41, false))⟩,
    ⟨(some 44), (.call (.pu [])), [.c (.fn 62 [] []), .t 42, .t 43], (some (41, false))⟩,
    ⟨(some 45), (.binI .lss), [.t 44, .c (.i .i64 0)], (some (41, false))⟩,
    ⟨(some 46), .pick, [.t 41, .c (.b true), .t 45], none⟩] [6, 9, 46])
  (.cond (.t 46)
   (.reg [⟨(some 47), .mv, [.t 9], none⟩,
     ⟨none, (.st 1), [.t 6, .t 47], none⟩] [])
   .skip))))))

def c20 : DC :=
 (.seq (.reg [⟨(some 2), .mv, [.c .nilsl], none⟩,
   ⟨(some 3), .mv, [.c (.i .i64 0)], none⟩] [0])
 (.seq (.reg [⟨(some 11), .mv, [.t 0], none⟩,
   ⟨(some 12), (.call .sh), [.c (.fn 53 [] []), .t 11, .c .nilsl], none⟩,
   ⟨(some 10), .mv, [.t 12], none⟩,
   ⟨(some 13), (.ext 0), [.t 10], none⟩,
   ⟨(some 14), (.ext 1), [.t 10], none⟩,
   ⟨(some 4), (.alloc [.nilp] false), [], none⟩,
   ⟨none, (.st 1), [.t 4, .t 13], none⟩,
   ⟨(some 5), .mv, [.t 14], none⟩] [4, 5])
 (.seq (.seq (.reg [⟨(some 15), .mv, [.t 5], none⟩,
   ⟨(some 16), (.binI .neq), [.t 15, .c (.i .i64 0)], none⟩] [4, 5, 16])
 (.cond (.t 16)
  (.seq (.reg [⟨(some 17), .mv, [.t 5], none⟩,
    ⟨(some 2), .mv, [.c .nilsl], none⟩,
    ⟨(some 3), .mv, [.t 17], none⟩] [2, 3])
  .ret)
  .skip))
 (.seq (.reg [⟨(some 6), (.alloc [.nilsl] false), [], none⟩] [4, 6])
 (.seq (.seq (.reg [⟨(some 18), (.ld 1 false), [.t 4], none⟩,
   ⟨(some 19), (.call .sh), [.c (.fn 58 [] []), .t 18], none⟩] [4, 6, 19])
 (.block 0
  (.rfunc (.t 19) [20] a20_0
   b20_1 [4, 6])))
 (.seq (.reg [⟨(some 48), (.ld 1 false), [.t 6], none⟩,
   ⟨(some 2), .mv, [.t 48], none⟩,
   ⟨(some 3), .mv, [.c (.i .i64 0)], none⟩] [2, 3])
 .ret))))))

def d20 : DFun := ⟨1, 49, c20, [.t 2, .t 3]⟩

theorem ok20 : Fok Tryd.prog 20 d20 := ⟨Tryd.f20, Tryd.func20, by kernel_rfl, by kernel_rfl⟩

end Go.Proofs.Tryd.Dn

